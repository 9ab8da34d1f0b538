/- Texts of this claim, put together: Eff3, Eff4, App, Copy, Wk, Call, Call2, Mape, Clr, Fnc, Vro, Ord, Reg, Stle, Rnd, Ctl. -/
import Derived.Test.YteicokbnoonipaaGreatDoorM1
import Derived.RangeFuncLeaves
import Derived.RangeFuncSeq
import Derived.OrdersIn
import Derived.TacticsIn
import Derived.RangeFuncRecord
namespace Hk
open Go
set_option linter.unusedVariables false
set_option linter.unusedSimpArgs false
def RowVals (w : World) (M : Nat → Prop) (esz : Nat) (rows : List (List PV)) (vs : List Value) : Prop :=
 vs.length = rows.length * esz ∧ (∀ (i : Nat) row, rows[i]? = some row → row.length = esz) ∧
 ∀ (i : Nat) row (j : Nat) x, rows[i]? = some row → row[j]? = some x → x.one = true ∧ ∃ u, vs[i * esz + j]? = some u ∧ RP w M x u
theorem RowVals.later {w w' : World} {M M' : Nat → Prop} (hL : Later M w w' M') {esz : Nat} {rows : List (List PV)} {vs : List Value} (h : RowVals w M esz rows vs) : RowVals w' M' esz rows vs :=
 ⟨h.1, h.2.1, fun i row j x hi hx => by
  obtain ⟨h1, u, h2, h3⟩ := h.2.2 i row j x hi hx
  exact ⟨h1, u, h2, h3.later hL⟩⟩
theorem row_pos {esz n i j : Nat} (hi : i < n) (hj : j < esz) : i * esz + j < n * esz := by
 have := Nat.mul_le_mul_right esz (show i + 1 ≤ n from hi)
 rw [Nat.add_mul, Nat.one_mul] at this
 omega
theorem row_split {esz n m : Nat} (h : m < n * esz) : ∃ i j, i < n ∧ j < esz ∧ m = i * esz + j := by
 have hpos : 0 < esz := by
  rcases Nat.eq_zero_or_pos esz with h0 | h0
  ·subst h0; simp at h
  ·exact h0
 refine ⟨m / esz, m % esz, ?_, Nat.mod_lt _ hpos, ?_⟩
 ·exact Nat.div_lt_of_lt_mul (by rwa [Nat.mul_comm])
 ·rw [Nat.mul_comm]; exact (Nat.div_add_mod m esz).symm
theorem RowVals.one {w : World} {M : Nat → Prop} {esz : Nat} {rows : List (List PV)} {vs : List Value} (h : RowVals w M esz rows vs) : ∀ v ∈ vs, oneC v = true := by
 intro v hv
 obtain ⟨m, hm, rfl⟩ := List.getElem_of_mem hv
 obtain ⟨i, j, hi, hj, rfl⟩ := row_split (by rw [← h.1]; exact hm)
 have hrow := List.getElem?_eq_getElem hi
 have hl := h.2.1 i _ hrow
 have hx : rows[i][j]? = some rows[i][j] := List.getElem?_eq_getElem (by omega)
 obtain ⟨h1, u, h2, h3⟩ := h.2.2 i _ j _ hrow hx
 rw [List.getElem?_eq_getElem hm] at h2
 cases h2
 exact h3.oneCell h1
theorem RowVals.append {w : World} {M : Nat → Prop} {esz : Nat} {r1 r2 : List (List PV)} {v1 v2 : List Value} (h1 : RowVals w M esz r1 v1) (h2 : RowVals w M esz r2 v2) :
 RowVals w M esz (r1 ++ r2) (v1 ++ v2) := by
 refine ⟨by simp [h1.1, h2.1, Nat.add_mul], fun i row hi => ?_, fun i row j x hi hx => ?_⟩
 ·rw [List.getElem?_append] at hi
  split at hi
  ·exact h1.2.1 _ _ hi
  ·exact h2.2.1 _ _ hi
 ·rw [List.getElem?_append] at hi
  split at hi
  ·rename_i hlt
   obtain ⟨a, u, b, c⟩ := h1.2.2 i row j x hi hx
   refine ⟨a, u, ?_, c⟩
   rw [List.getElem?_append_left]
   ·exact b
   ·exact (List.getElem?_eq_some_iff.1 b).1
  ·rename_i hge
   obtain ⟨a, u, b, c⟩ := h2.2.2 _ row j x hi hx
   refine ⟨a, u, ?_, c⟩
   have e : i * esz + j = v1.length + ((i - r1.length) * esz + j) := by
    rw [h1.1, ← Nat.add_assoc, ← Nat.add_mul]
    congr 2; omega
   rw [e, List.getElem?_append_right (by omega)]
   rw [← b]; congr 1; omega
theorem RowVals.blk {w : World} {ι : Inj} {esz : Nat} {rows : List (List PV)} {vs : List Value} (h : RowVals w ι.M esz rows vs) (rest : List Value) :
 BlkAt w ι (vs ++ rest).toArray 0 (.pr esz rows) := by
 refine ⟨by simp [h.1], h.2.1, fun i row j x hi hx => ?_⟩
 obtain ⟨h1, u, h2, h3⟩ := h.2.2 i row j x hi hx
 refine ⟨h1, u, ?_, h3⟩
 have := (List.getElem?_eq_some_iff.1 h2).1
 simp only [Nat.zero_add, List.getElem?_toArray]
 rw [List.getElem?_append_left this]; exact h2
section
variable {cx : Cx} {ι ι0 : Inj} {st : St} {a : Act} {w : World}
theorem RowsAt.vals {v : Value} {esz : Nat} {rows : List (List PV)} (h : RowsAt w ι.M v esz rows) : ∃ vs, RowVals w ι.M esz rows vs ∧
 ∀ (P : Program) n (w' : World), n ≤ rows.length → Ext w w' → (Builtin.firstCells esz n v).run P w' = .ok (vs.take (n * esz)).toArray w' := by
 obtain ⟨oa, cap, rfl, h⟩ := h
 rcases h with rfl | ⟨ad, rfl, hs, hrow⟩
 ·refine ⟨[], ⟨by simp, by simp, by simp⟩, fun P n w' hn _ => ?_⟩
  have : n = 0 := by simpa using hn
  subst this
  cases oa <;> simp [Builtin.firstCells, loadCells, loadCellsFrom]
 ·have hcell : ∀ m, m < rows.length * esz → ∃ v x, w.cell? ⟨ad.block, ad.off + m, none⟩ = some v ∧ RP w ι.M x v ∧ x.one = true := by
   intro m hm
   obtain ⟨i, j, hi, hj, rfl⟩ := row_split hm
   obtain ⟨h1, h2⟩ := hrow i _ (List.getElem?_eq_getElem hi)
   obtain ⟨h3, v, h4, h5⟩ := h2 j _ (List.getElem?_eq_getElem (by omega))
   exact ⟨v, _, by rw [← Nat.add_assoc]; exact h4, h5, h3⟩
  refine ⟨(List.range (rows.length * esz)).map fun m => (w.cell? ⟨ad.block, ad.off + m, none⟩).getD undef, ⟨by simp, fun i row hi => (hrow i row hi).1, fun i row j x hi hx => ?_⟩, fun P n w' hn hw' => ?_⟩
  ·obtain ⟨h1, h2⟩ := hrow i row hi
   obtain ⟨h3, v, h4, h5⟩ := h2 j x hx
   have hi' := (List.getElem?_eq_some_iff.1 hi).1
   have hj' : j < esz := by rw [← h1]; exact (List.getElem?_eq_some_iff.1 hx).1
   refine ⟨h3, v, ?_, h5⟩
   rw [Nat.add_assoc] at h4
   simp [row_pos hi' hj', h4]
  ·have hle : n * esz ≤ rows.length * esz := Nat.mul_le_mul_right _ hn
   simp only [Builtin.firstCells]
   rw [run_loadCells (P := P) w' ad (n * esz) (fun m => (w.cell? ⟨ad.block, ad.off + m, none⟩).getD undef) (fun m hm => by
    obtain ⟨v, x, h1, _⟩ := hcell m (by omega)
    rw [add_spot hs, hw'.cell h1, h1]; rfl)]
   rw [← List.map_take, List.take_range, Nat.min_eq_left hle]
theorem lay_sound' (hr : Rel cx ι st a w) {d : Option Nat} (hd : ∀ t, d = some t → cx.okb t = true) {w' : World} {cs : Array Value} {ty : TypeId} {fz : Nat × Nat} {blk : Blk} {av : AV} {v : Value} {k : St → Prop} {q : Bool}
 (hw' : w'.heap = w.heap.push (.cells cs ty fz)) (hos : w'.os = w.os ∧ w'.output = w.output) (ht : Thaw cs.size fz)
 (hb : BlkAt w ι cs 0 blk) (hv : ∀ (ι' : Inj), ι' st.heap.length = some (w.heap.size, 0, cs.size) → RA w' ι' av v) (hk : k (newSt st d av blk)) :
 After cx q w k (a.put d v) w' := by
 have hold : ∀ (d : Nat) (x : Obj), w.heap[d]? = some x → w'.heap[d]? = some x := fun d x hx => by
  rw [hw']; exact pushW_old w _ d x hx
 have hpush : w'.heap[w.heap.size]? = some (.cells cs ty fz) := by rw [hw']; exact pushW_new w _
 obtain ⟨hm, hL, hι⟩ := hr.mem.lay (w' := w') (c := w.heap.size) (o := 0) (s := cs.size) (blk := blk) (Nat.le_refl _) hold hos
  (fun hL hι => (hb.later hL hι).rb hpush ht) (fun l r e => by subst e; exact hb)
 refine ⟨⟨_, _, ⟨?_, tm_put (st := ⟨st.tmps, st.heap ++ [blk]⟩) (tm_later hL hι hr.tm) hr.sz.1 (fun t ht => cx.okn t (hd t ht)) (hv _ (Inj.upd_self _ _ _)), Sz.put hr.sz hd _, by rw [Act.put_df]; exact hr.df⟩, hk⟩, fun _ => hold⟩
 rw [put_heap]; exact hm
theorem cDense_sound {l : List (Nat × Operand)} {n : Nat} {ops : List Opd} (h : cDense n l = some ops) : ops.length = l.length ∧ cOpds (l.map (·.2)) = some ops ∧ ∀ (i : Nat) p, l[i]? = some p → p.1 = n + i := by
 induction l generalizing n ops with
 | nil => simp [cDense] at h; subst h; simp [cOpds]
 | cons p r ih =>
   obtain ⟨i, x⟩ := p
   simp only [cDense] at h
   split at h
   ·rename_i e
    subst e
    split at h
    ·rename_i y l h1 h2
     cases h
     obtain ⟨g1, g2, g3⟩ := ih h2
     refine ⟨by simp [g1], by simp [cOpds, h1, g2], fun i p hp => ?_⟩
     cases i with
     | zero => simp at hp; subst hp; rfl
     | succ i => simp at hp; rw [g3 i p hp]; omega
    ·cases h
   ·cases h
theorem fill_dense {esz : Nat} : ∀ (parts : List (Nat × Value)) (n : Nat) (cells : Array Value), (∀ (i : Nat) p, parts[i]? = some p → p.1 = n + i) → (∀ p ∈ parts, p.2.cells.size = esz) →
 (n + parts.length) * esz ≤ cells.size →
 ∃ cells', Instr.fill (fun i => some (i * esz, esz)) cells parts = some cells' ∧ cells'.size = cells.size ∧ (∀ m, m < n * esz → cells'[m]? = cells[m]?) ∧
  ∀ (i : Nat) p (j : Nat), parts[i]? = some p → j < esz → cells'[(n + i) * esz + j]? = p.2.cells[j]?
 | [], n, cells, _, _, _ => ⟨cells, rfl, rfl, fun _ _ => rfl, by simp⟩
 | (i0, v) :: r, n, cells, h1, h2, h3 => by
   have e0 : i0 = n := by simpa using h1 0 (i0, v) rfl
   subst e0
   have hv : v.cells.size = esz := h2 (i0, v) (by simp)
   have hlen : (i0 + 1 + r.length) * esz ≤ cells.size := by simp at h3; rw [show i0 + 1 + r.length = i0 + (r.length + 1) by omega]; exact h3
   have hseg : i0 * esz + esz ≤ cells.size := by
    have := Nat.mul_le_mul_right esz (show i0 + 1 ≤ i0 + 1 + r.length by omega)
    rw [Nat.add_mul, Nat.one_mul] at this; omega
   obtain ⟨cells', g1, g2, g3, g4⟩ := fill_dense r (i0 + 1) (v.cells.zipIdx.foldl (fun cs (c, j) => cs.setIfInBounds (i0 * esz + j) c) cells)
    (fun i p hp => by have := h1 (i + 1) p (by simpa using hp); omega) (fun p hp => h2 p (by simp [hp])) (by rw [foldl_set_arr, foldl_set_size]; exact hlen)
   refine ⟨cells', ?_, by rw [g2, foldl_set_arr, foldl_set_size], fun m hm => ?_, fun i p j hp hj => ?_⟩
   ·simp only [Instr.fill]
    rw [if_neg]
    ·exact g1
    ·simp only [Bool.or_eq_true, decide_eq_true_eq, not_or]
     exact ⟨by simp [hv], by omega⟩
   ·rw [g3 m (by rw [Nat.add_mul]; omega), foldl_set_arr, foldl_set, if_neg (by omega)]
   ·cases i with
    | zero =>
      simp at hp; subst hp
      have e2 : (i0 + 1) * esz = i0 * esz + esz := by rw [Nat.add_mul, Nat.one_mul]
      rw [Nat.add_zero, g3 _ (by omega), foldl_set_arr, foldl_set, if_pos (by simp [hv]; omega)]
      simp
    | succ i =>
      have := g4 i p j (by simpa using hp) hj
      rw [show i0 + (i + 1) = i0 + 1 + i by omega]; exact this
theorem vpureL_ok {x : AV} {k : St → List PV → Prop} (h : vpureL cx.E st (cellsOf x) k) : vok x = true := by
 cases x <;> first | rfl | exact h.elim
theorem vbsl_sound {val : Nat → Value} : ∀ (xs : List AV) (n : Nat) {ι : Inj} {st : St} (hr : Rel cx ι st a w) (hf : Frz ι0 ι st.heap)
 (hx : ∀ (i : Nat) x, xs[i]? = some x → RA w ι0 x (val (n + i))) {k : St → List (List PV) → Prop} (h : vbsl cx.E st xs k),
 ∃ ι' st' rows, k st' rows ∧ Rel cx ι' st' a w ∧ rows.length = xs.length ∧
  (∀ (i : Nat) row, rows[i]? = some row → row.length = (val (n + i)).cells.size ∧ ∀ (j : Nat) y, row[j]? = some y → y.one = true ∧ RP w ι'.M y ((val (n + i)).cells.getD j undef)) ∧
  Frz ι0 ι' st'.heap ∧ Later ι.M w w ι'.M
 | [], n, ι, st, hr, hf, hx, k, h => ⟨ι, st, [], h, hr, rfl, by simp, hf, Later.refl _ _⟩
 | x :: r, n, ι, st, hr, hf, hx, k, h => by
   have h : vpureL cx.E st (cellsOf x) (fun st row => vbsl cx.E st r fun st rows => k st (row :: rows)) := vagg_of h
   have hok := vpureL_ok h
   obtain ⟨hcs, hcv⟩ := cells_sound hok (hx 0 x rfl)
   obtain ⟨ι1, st1, row, h1, hr1, hl1, hp1, hf1, hL1⟩ := vpureL_sound (val := fun j => (val (n + 0)).cells.getD j undef) (cellsOf x) 0 hr hf (fun i y hy => by simpa using (hcv i y hy).2) h
   obtain ⟨ι2, st2, rows, h2, hr2, hl2, hp2, hf2, hL2⟩ := vbsl_sound r (n + 1) hr1 hf1 (fun i x hi => by
    have := hx (i + 1) x (by simpa using hi)
    rw [Nat.add_assoc, Nat.add_comm 1 i]; exact this) h1
   refine ⟨ι2, st2, row :: rows, h2, hr2, by simp [hl2], fun i z hz => ?_, hf2, ⟨fun _ _ _ h => h, fun c hc => ?_, Nat.le_refl _⟩⟩
   ·cases i with
    | zero =>
      simp at hz; subst hz
      refine ⟨by rw [hl1]; exact hcs.symm, fun j y hy => ?_⟩
      have g1 := hp1 j y hy
      simp only [Nat.zero_add] at g1
      have hlt : j < (cellsOf x).length := by rw [← hl1]; exact (List.getElem?_eq_some_iff.1 hy).1
      have g2 := (hcv j _ (List.getElem?_eq_getElem hlt)).1
      exact ⟨g1.one_of g2, g1.later hL2⟩
    | succ i =>
      have := hp2 i z (by simpa using hz)
      rw [Nat.add_assoc, Nat.add_comm 1 i] at this; exact this
   ·rcases hL2.new c hc with h3 | h3
    ·exact hL1.new c h3
    ·exact .inr h3
theorem bslice_sound (hr : Rel cx ι st a w) {o : Oper} {t e : TypeId} {len esz : Nat} {parts : Array (Nat × Operand)} {ops : List Opd} (ho : o.op = .buildSlice t len parts)
 (hu : cx.P.underlying t = some (.slice e)) (hs : szT cx.P e = some esz) (hp : cDense 0 parts.toList = some ops) (hlen : ops.length = len) (hsmall : len * esz ≤ 2 ^ 24) (hpos : 0 < esz)
 (hz : (zeroT cx.P e).isSome = true) (hd : ∀ t, o.dst = some t → cx.okb t = true) {q : Bool} {k : St → Prop} (h : vro cx.E q (.bslice esz ops) o.dst st k)
 {Q : Exit → Act → World → Prop} : o.wp cx.P a w (After cx q w k) Q := by
 obtain ⟨d1, d2, d3⟩ := cDense_sound hp
 obtain ⟨e1, e2⟩ := evL_sound hr.mem.hr.gl hr.tm d2
 obtain ⟨z, hz⟩ := Option.isSome_iff_exists.1 hz
 obtain ⟨i0, v0, hi0, hz0, _, _, hzs⟩ := zeroT_sound (w := w) (ι := ι) hz
 obtain ⟨ι', st', rows, ⟨hrl, hk⟩, hr', hl', hrows, hf, hL⟩ := vbsl_sound (val := fun i => ((parts.toList.map (·.2)).map a.eval).toArray.getD i undef) (evL st ops) 0 hr (Frz.refl _ _) (fun i x hx => by simpa using e2 i x hx) h
 have hn : rows.length = len := by rw [hl', e1]; simp at d1 ⊢; omega
 let pv : List (Nat × Value) := parts.toList.map fun p => (p.1, a.eval p.2)
 have hpl : pv.length = len := by simp [pv]; simp at d1; omega
 have hval : ∀ i p, pv[i]? = some p → ((parts.toList.map (·.2)).map a.eval).toArray.getD i undef = p.2 := fun i p hp => by
  have h1 : ((parts.toList.map (·.2)).map a.eval)[i]? = some p.2 := by
   simp only [pv, List.getElem?_map] at hp ⊢
   obtain ⟨x, hx, rfl⟩ := Option.map_eq_some_iff.1 hp
   rw [hx]; rfl
  simp only [Array.getD_eq_getD_getElem?, List.getElem?_toArray, h1, Option.getD_some]
 have hsz : ∀ p ∈ pv, p.2.cells.size = esz := fun p hp => by
  obtain ⟨i, hi, rfl⟩ := List.getElem_of_mem hp
  have g := hval i _ (List.getElem?_eq_getElem hi)
  have hi' : i < rows.length := by rw [hn, ← hpl]; exact hi
  have := (hrows i _ (List.getElem?_eq_getElem hi')).1
  simp only [Nat.zero_add] at this
  rw [g] at this
  rw [← this]; exact hrl _ (List.getElem_mem hi')
 obtain ⟨cells', g1, g2, g3, g4⟩ := fill_dense (esz := esz) pv 0 ((Array.range (len * esz)).map fun i => (if len * esz = 0 then (#[] : Array Value) else v0.cells)[i % (if len * esz = 0 then (#[] : Array Value) else v0.cells).size]!)
  (fun i p hp => by
   simp only [pv, List.getElem?_map] at hp
   obtain ⟨x, hx, rfl⟩ := Option.map_eq_some_iff.1 hp
   exact d3 i x hx) hsz (by simp [hpl])
 have hrun : (execOp a.eval o).run cx.P w = .ok (.value (.slice (some ⟨w.heap.size, 0, none⟩) len len)) (pushW w (.cells cells' e)) := by
  have hfill : Instr.fill (fun i => some (i * esz, esz)) ((Array.range (len * esz)).map fun i => (if len * esz = 0 then (#[] : Array Value) else v0.cells)[i % (if len * esz = 0 then (#[] : Array Value) else v0.cells).size]!)
   (parts.map fun (i, x) => (i, a.eval x)).toList = some cells' := by
   rw [← g1]; simp [pv]
  by_cases h0 : len * esz = 0
  ·simp only [h0, if_true] at hfill
   simp only [execOp, ho, Instr.buildSlice, Sem.run_bind, run_underlying hu, Result.andThen_ok, run_sizeOf hs, h0, if_true, Sem.run_pure, hfill, newRow, run_newObj, gt_iff_lt, Nat.not_lt_zero, if_false]
   rfl
  ·simp only [h0, if_false] at hfill
   simp only [execOp, ho, Instr.buildSlice, Sem.run_bind, run_underlying hu, Result.andThen_ok, run_sizeOf hs, if_neg (show ¬ len * esz > 2 ^ 24 by omega), h0, if_false, Sem.run_pure, run_zeroValue hi0 hz0, hfill, newRow, run_newObj]
   rfl
 have hrv : RowVals w ι'.M esz rows cells'.toList := by
  refine ⟨by simp [g2, hn], fun i row hi => hrl _ (List.mem_of_getElem? hi), fun i row j x hi hx => ?_⟩
  obtain ⟨q1, q2⟩ := hrows i row hi
  obtain ⟨q3, q4⟩ := q2 j x hx
  have hi' : i < pv.length := by rw [hpl, ← hn]; exact (List.getElem?_eq_some_iff.1 hi).1
  have hj' : j < esz := by rw [← hrl _ (List.mem_of_getElem? hi)]; exact (List.getElem?_eq_some_iff.1 hx).1
  have g5 := g4 i _ j (List.getElem?_eq_getElem hi') hj'
  have g6 := hval i _ (List.getElem?_eq_getElem hi')
  simp only [Nat.zero_add] at q4 g5
  rw [g6] at q4
  have hsz' := hsz _ (List.getElem_mem hi')
  refine ⟨q3, pv[i].2.cells.getD j undef, ?_, q4⟩
  rw [Array.getElem?_toList, g5]
  simp [hsz', hj']
 have hb := hrv.blk []
 simp only [List.append_nil, Array.toArray_toList] at hb
 obtain ⟨hkc, hext⟩ := lay_sound' (q := q) hr' hd (w' := pushW w (.cells cells' e)) (fz := (0, 0)) rfl ⟨rfl, rfl⟩ (fun o _ h => by omega) hb
  (av := .sl st'.heap.length esz 0 rows.length (some rows.length)) (v := .slice (some ⟨w.heap.size, 0, none⟩) len len) (fun ι2 h2 => by
   have := RA.sl (w := pushW w (.cells cells' e)) (ι := ι2) (wd := esz) (i := 0) (len := len) (cc := len) (cap := some len) h2 (Nat.le_refl _) (fun k hk => by cases hk; rfl) (by simp [g2])
   simpa [hn] using this) hk
 exact wp_value hrun ⟨hkc, hext⟩
end
end Hk
namespace Hk
open Go
set_option linter.unusedVariables false
set_option linter.unusedSimpArgs false
section
variable {cx : Cx} {ι ι0 : Inj} {st : St} {a : Act} {w : World}
theorem zero_rows {z : List PV} {v : Value} {esz : Nat} (hz : ∀ (i : Nat) x, z[i]? = some x → x.one = true ∧ RP w ι.M x (v.cells.getD i undef)) (hs : v.cells.size = z.length) (hl : z.length = esz) (m : Nat) :
 RowVals w ι.M esz (List.replicate m z) ((List.range (m * esz)).map fun i => v.cells[i % v.cells.size]!) := by
 refine ⟨by simp, fun i row hi => ?_, fun i row j x hi hx => ?_⟩
 ·rw [List.getElem?_replicate] at hi
  split at hi
  ·cases hi; exact hl
  ·cases hi
 ·rw [List.getElem?_replicate] at hi
  split at hi
  ·rename_i hlt
   cases hi
   obtain ⟨h1, h2⟩ := hz j x hx
   have hj : j < esz := by rw [← hl]; exact (List.getElem?_eq_some_iff.1 hx).1
   refine ⟨h1, v.cells.getD j undef, ?_, h2⟩
   rw [List.getElem?_map, List.getElem?_range (row_pos hlt hj)]
   have hmod : (i * esz + j) % v.cells.size = j := by
    rw [hs, hl, Nat.mul_comm, Nat.mul_add_mod, Nat.mod_eq_of_lt hj]
   have hj' : j < v.cells.size := by omega
   simp [hmod, hj']
  ·cases hi
theorem wrap64_id {n : Int} (h0 : 0 ≤ n) (h1 : n < 9223372036854775808) : IntKind.i64.wrap n = n := by
 unfold IntKind.wrap IntKind.signed IntKind.bits
 simp
 omega
theorem mksl_sound (hr : Rel cx ι st a w) {o : Oper} {t e : TypeId} {l c : Operand} {l' c' : Opd} {z : List PV} {esz bytes : Nat} (ho : o.op = .makeSlice t l c)
 (hu : cx.P.underlying t = some (.slice e)) (hl : cOpd l = some l') (hc : cOpd c = some c') (hz : zeroT cx.P e = some z) (hs : szT cx.P e = some esz) (hb : bytesT cx.P e = some bytes)
 (hzl : z.length = esz) (hpos : 0 < esz) (hd : ∀ t, o.dst = some t → cx.okb t = true) {q : Bool} {k : St → Prop} (h : vro cx.E q (.mksl z esz bytes l' c') o.dst st k)
 {Q : Exit → Act → World → Prop} : o.wp cx.P a w (After cx q w k) Q := by
 have hlv := ev_sound hr.mem.hr.gl hr.tm hl
 have hcv := ev_sound hr.mem.hr.gl hr.tm hc
 obtain ⟨i0, v0, hi0, hz0, _, hzr, hzs⟩ := zeroT_sound (w := w) (ι := ι) hz
 have hb0 : i0.bytes = bytes := by unfold bytesT at hb; rw [hi0] at hb; simpa using hb
 have h : vmksl z esz bytes o.dst st (ev st l') (ev st c') k := h
 generalize ev st l' = al at h hlv
 generalize ev st c' = ac at h hcv
 unfold vmksl at h
 split at h
 ·rename_i k1 n k2 m
  obtain ⟨⟨h0, h1, h2, h3⟩, h⟩ := h
  have e1 := RA_int hlv
  have e2 := RA_int hcv
  unfold roomMost at h2 h3
  have w1 : IntKind.i64.wrap n = n := wrap64_id h0 (by omega)
  have w2 : IntKind.i64.wrap m = m := wrap64_id (by omega) (by omega)
  have hrv := zero_rows (w := w) (ι := ι) hzr hzs hzl n.toNat
  have hcs : (m.toNat * esz = 0 → m.toNat = 0) := fun h => by
   rcases Nat.mul_eq_zero.1 h with h | h
   ·exact h
   ·omega
  have hbn : ¬ ((bytes : Int) * m > 2 ^ 48) := by
   rw [Int.mul_comm]; omega
  have hrun : (execOp a.eval o).run cx.P w = .ok (.value (.slice (some ⟨w.heap.size, 0, none⟩) n.toNat m.toNat))
   (pushW w (.cells ((List.range (m.toNat * esz)).map fun i => v0.cells[i % v0.cells.size]!).toArray e)) := by
   have ha : ((Array.range (m.toNat * esz)).map fun i => v0.cells[i % v0.cells.size]!) = ((List.range (m.toNat * esz)).map fun i => v0.cells[i % v0.cells.size]!).toArray := by
    apply Array.ext'; simp
   have hcond : ¬ (((m < 0 ∨ 281474976710656 < (bytes : Int) * m) ∨ n < 0) ∨ m < n) := by omega
   by_cases hz : m.toNat * esz = 0
   ·have hm0 := hcs hz
    simp [execOp, ho, Instr.makeSlice, run_underlying hu, e1, e2, asInt, asIntOf, run_typeInfo hi0, hb0, w1, w2, run_sizeOf hs, newRow, hm0]
    rw [if_neg hcond]
    have em : (Array.map (fun _ => (default : Value)) (Array.range 0)) = #[] := by apply Array.ext'; simp
    rw [em]; rfl
   ·simp [execOp, ho, Instr.makeSlice, run_underlying hu, e1, e2, asInt, asIntOf, run_typeInfo hi0, hb0, w1, w2, run_sizeOf hs, newRow, hz, run_zeroValue hi0 hz0, ha]
    rw [if_neg hcond]
    rfl
  have hblk := hrv.blk ((List.range' (n.toNat * esz) (m.toNat * esz - n.toNat * esz)).map fun i => v0.cells[i % v0.cells.size]!)
  have hnm : n.toNat * esz ≤ m.toNat * esz := Nat.mul_le_mul_right _ (by omega)
  rw [← List.map_append, List.range_eq_range' (n := n.toNat * esz), show List.range' 0 (n.toNat * esz) ++ List.range' (n.toNat * esz) (m.toNat * esz - n.toNat * esz) = List.range (m.toNat * esz) by
   have := List.range'_append_1 (s := 0) (m := n.toNat * esz) (n := m.toNat * esz - n.toNat * esz)
   rw [Nat.zero_add] at this
   rw [this, List.range_eq_range']
   congr 1; omega] at hblk
  refine wp_value hrun (lay_sound' (q := q) hr hd rfl ⟨rfl, rfl⟩ (fun o _ h => by omega) hblk (fun ι2 h4 => ?_) h)
  have := RA.sl (w := pushW w (.cells ((List.range (m.toNat * esz)).map fun i => v0.cells[i % v0.cells.size]!).toArray e)) (ι := ι2) (wd := esz) (i := 0) (len := n.toNat) (cc := m.toNat) (cap := some m.toNat) h4
   (by omega) (fun k hk => by cases hk; rfl) (by simp)
  simpa using this
 ·exact h.elim
theorem bytesOf_sound (hr : Rel cx ι st a w) {o : Oper} {s t e : TypeId} {x : Operand} {x' : Opd} (ho : o.op = .convert s t x)
 (hs : cx.P.underlying s = some .string) (ht : cx.P.underlying t = some (.slice e)) (he : cx.P.underlying e = some (.int .u8)) (hx : cOpd x = some x')
 (hd : ∀ t, o.dst = some t → cx.okb t = true) {q : Bool} {k : St → Prop} (h : vro cx.E q (.bytesOf x') o.dst st k)
 {Q : Exit → Act → World → Prop} : o.wp cx.P a w (After cx q w k) Q := by
 have hxv := ev_sound hr.mem.hr.gl hr.tm hx
 have h : vbytesOf o.dst st (ev st x') k := h
 generalize ev st x' = ax at h hxv
 unfold vbytesOf at h
 split at h
 ·rename_i l
  have ex := RA_str hxv
  obtain ⟨cap, hcap, hcr⟩ : ∃ cap, l.length ≤ cap ∧ (choose (.appendCap l.length 0 e)).run cx.P w = .ok cap { w with drawn := w.drawn + 1 } :=
   ⟨l.length + w.tape w.drawn (.appendCap l.length 0 e) % (2 ^ 63 - l.length), by omega, by simp only [run_choose, Question.forced, Bool.false_eq_true, if_false, Question.cut]⟩
  let cs : Array Value := (l.map fun b => (Value.int .u8 b.toNat)).toArray ++ Array.replicate (cap - l.length) (.int .u8 0)
  have hcs : cs.size = cap := by simp [cs]; omega
  let w' : World := { w with drawn := w.drawn + 1, heap := w.heap.push (.cells cs e (cap, cap + 1)) }
  have hrun : (execOp a.eval o).run cx.P w = .ok (.value (.slice (some ⟨w.heap.size, 0, none⟩) l.length cap)) w' := by
   have e1 : (⟨⟨l⟩⟩ : ByteArray).size = l.length := rfl
   have e2 : ((⟨⟨l⟩⟩ : ByteArray).data.map fun b => (Value.int .u8 b.toNat)) = (l.map fun b => (Value.int .u8 b.toNat)).toArray := by
    apply Array.ext'; simp
   have e3 : ({ w with drawn := w.drawn + 1, heap := w.heap.push (.cells cs e) } : World).shape? w.heap.size = some (e, cap) := by
    simp [World.shape?, hcs]
   have e4 : ({ w with drawn := w.drawn + 1, heap := w.heap.push (.cells cs e) } : World).freeze ⟨w.heap.size, cap, none⟩ 1 = w' := by
    simp only [World.freeze, w']
    rw [if_neg (by omega)]
    congr 1
    apply Array.ext_getElem?
    intro j
    rw [Array.getElem?_modify]
    by_cases ej : w.heap.size = j
    ·subst ej; simp
    ·rw [if_neg ej]
     by_cases hlt : j < w.heap.size
     ·rw [Array.getElem?_push_lt hlt, Array.getElem?_push_lt hlt]
     ·rw [Array.getElem?_eq_none (by simp; omega), Array.getElem?_eq_none (by simp; omega)]
   simp only [execOp, ho, ex, convert, Sem.run_bind, run_underlying hs, run_underlying ht, run_underlying he, Result.andThen_ok, Conv.stringToBytes, e1, hcr, e2, newRow, run_newObj, Sem.run_pure, markStringish, run_shape]
   have e5 : ({ w with drawn := w.drawn + 1, heap := w.heap.push (.cells ((l.map fun b => (Value.int .u8 b.toNat)).toArray ++ Array.replicate (cap - l.length) (.int .u8 0)) e) } : World).shape? w.heap.size = some (e, cap) := e3
   simp only [e5, run_freeze, Result.andThen_ok]
   exact congrArg (Result.ok _) e4
  have hrv : RowVals w ι.M 1 (l.map encByte) (l.map fun b => (Value.int .u8 b.toNat)) := by
   refine ⟨by simp, fun i row hi => ?_, fun i row j x hi hx => ?_⟩
   ·simp at hi; obtain ⟨b, _, rfl⟩ := hi; rfl
   ·simp at hi
    obtain ⟨b, hb, rfl⟩ := hi
    cases j with
    | zero => simp [encByte] at hx; subst hx; exact ⟨rfl, .int .u8 b.toNat, by simp [hb], .int _ _⟩
    | succ j => simp [encByte] at hx
  have hblk := hrv.blk (List.replicate (cap - l.length) (Value.int .u8 0))
  have ecs : ((l.map fun b : UInt8 => (Value.int .u8 b.toNat)) ++ List.replicate (cap - l.length) (Value.int .u8 0)).toArray = cs := by
   apply Array.ext'; simp [cs]
  rw [ecs] at hblk
  refine wp_value hrun (lay_sound' (q := q) hr hd (fz := (cap, cap + 1)) rfl ⟨rfl, rfl⟩ (fun o ho' h => by omega) hblk (fun ι2 h4 => ?_) h)
  have := RA.sl (w := w') (ι := ι2) (wd := 1) (i := 0) (len := l.length) (cc := cap) (cap := none) h4 hcap (by simp) (by omega)
  simpa using this
 ·exact h.elim
end
end Hk
namespace Hk
open Go
set_option linter.unusedVariables false
set_option linter.unusedSimpArgs false
structure Src (w : World) (M : Nat → Prop) (v : Value) (esz : Nat) (rows : List (List PV)) (vs : List Value) : Prop where
 vals : RowVals w M esz rows vs
 len : ∀ (P : Program) (w' : World), (Builtin.lenOf v).run P w' = .ok rows.length w'
 first : ∀ (P : Program) n (w' : World), n ≤ rows.length → Ext w w' → (Builtin.firstCells esz n v).run P w' = .ok (vs.take (n * esz)).toArray w'
section
variable {cx : Cx} {ι ι0 : Inj} {st : St} {a : Act} {w : World}
theorem RowsAt.src {v : Value} {esz : Nat} {rows : List (List PV)} (h : RowsAt w ι.M v esz rows) : ∃ vs, Src w ι.M v esz rows vs := by
 obtain ⟨vs, h1, h2⟩ := h.vals
 obtain ⟨oa, cap, rfl, _⟩ := h
 exact ⟨vs, h1, fun P w' => rfl, h2⟩
theorem vrows_src {h : List Blk} (hr : HRel ι h w) {x : AV} {v : Value} (hx : RA w ι x v) {esz : Nat} {k : List (List PV) → Prop} (hv : vrows h x esz k) :
 ∃ rows vs, k rows ∧ Src w ι.M v esz rows vs := by
 obtain ⟨rows, hk, h⟩ := vrows_sound hr hx hv
 rcases h with ⟨l, rfl, rfl, rfl, rfl⟩ | h
 ·refine ⟨_, l.map fun b => .int .u8 b.toNat, hk, ⟨by simp, fun i row hi => ?_, fun i row j x hi hx => ?_⟩, fun P w' => ?_, fun P n w' hn _ => ?_⟩
  ·simp at hi; obtain ⟨b, _, rfl⟩ := hi; rfl
  ·simp at hi
   obtain ⟨b, hb, rfl⟩ := hi
   cases j with
   | zero => simp [encByte] at hx; subst hx; exact ⟨rfl, .int .u8 b.toNat, by simp [hb], .int _ _⟩
   | succ j => simp [encByte] at hx
  ·simp [Builtin.lenOf]; rfl
  ·simp only [Builtin.firstCells, bytes_extract, Sem.run_pure]
   congr 1
   apply Array.ext'
   simp [List.map_take]
 ·obtain ⟨vs, hs⟩ := h.src
  exact ⟨rows, vs, hk, hs⟩
theorem growBy_le (need : Nat) (hn : 256 ≤ need) : ∀ (r c : Nat), c ≤ 2 * need → Builtin.growBy need r c ≤ 2 * need
 | 0, c, h => h
 | r + 1, c, h => by
   simp only [Builtin.growBy]
   split
   ·exact h
   ·exact growBy_le need hn r _ (by omega)
theorem nextslicecap_le {need old : Nat} (h : old < need) : Builtin.nextslicecap need old ≤ 2 * need := by
 unfold Builtin.nextslicecap
 split
 ·omega
 ·split
  ·omega
  ·exact growBy_le need (by omega) _ _ (by omega)
theorem run_grow {P : Program} {sT xT ty e : TypeId} {esz bytes sLen sCap n : Nat} {z : List PV} {base : Option Addr} {x : Value} {old new : List Value}
 (hu : P.underlying sT = some (.slice e)) (hxT : (∃ e', P.underlying xT = some (.slice e')) ∨ P.underlying xT = some .string) (hs : szT P e = some esz) (hb : bytesT P e = some bytes) (hz : zeroT P e = some z) (hzl : z.length = esz) (hpos : 0 < bytes)
 (hlen : ∀ w', (Builtin.lenOf x).run P w' = .ok n w') (hold : ∀ w', Ext w w' → (Builtin.firstCells esz sLen (.slice base sLen sCap)).run P w' = .ok old.toArray w') (hol : old.length = sLen * esz)
 (hnew : ∀ w', Ext w w' → (Builtin.firstCells esz n x).run P w' = .ok new.toArray w') (hnl : new.length = n * esz)
 (hneed : sCap < sLen + n) (hroom : (sLen + n) * bytes ≤ roomMost) :
 ∃ (w' : World) (cap : Nat) (rest : List Value), sLen + n ≤ cap ∧ w'.heap = w.heap.push (.cells (old ++ new ++ rest).toArray e (0, 0)) ∧ (w'.os = w.os ∧ w'.output = w.output) ∧ (old ++ new ++ rest).length = cap * esz ∧
  (Builtin.append_ #[sT, xT] ty #[.slice base sLen sCap, x]).run P w = .ok (.slice (some ⟨w.heap.size, 0, none⟩) (sLen + n) cap) w' := by
 obtain ⟨i0, v0, hi0, hz0, _, _, hzs⟩ := zeroT_sound (w := w) (ι := ⟨fun _ => none, fun _ => False, fun _ => False, [], False⟩) hz
 have hb0 : i0.bytes = bytes := by unfold bytesT at hb; rw [hi0] at hb; simpa using hb
 let w1 : World := { w with drawn := w.drawn + 1 }
 have hext : Ext w w1 := fun c o h => h
 obtain ⟨cap, hcap, hcr⟩ : ∃ cap, sLen + n ≤ cap ∧ (choose (.appendCap (sLen + n) sCap e)).run P w = .ok cap w1 :=
  ⟨sLen + n + w.tape w.drawn (.appendCap (sLen + n) sCap e) % (2 ^ 63 - (sLen + n)), by omega, by simp only [run_choose, Question.forced, Bool.false_eq_true, if_false, Question.cut]; rfl⟩
 let rest : List Value := ((List.range ((cap - (sLen + n)) * v0.cells.size)).map fun i => v0.cells[i % v0.cells.size]!)
 have hrest : Builtin.zeroCells v0.cells (cap - (sLen + n)) = rest.toArray := by
  apply Array.ext'; simp [Builtin.zeroCells, rest]
 have hcapb : ¬ (Builtin.nextslicecap (sLen + n) sCap * bytes > 2 ^ 48) := by
  have h1 := nextslicecap_le hneed
  have h2 := Nat.mul_le_mul_right bytes h1
  rw [Nat.mul_assoc] at h2
  unfold roomMost at hroom
  omega
 refine ⟨{ w1 with heap := w.heap.push (.cells (old ++ new ++ rest).toArray e (0, 0)) }, cap, rest, hcap, rfl, ⟨rfl, rfl⟩, ?_, ?_⟩
 ·simp only [List.length_append, hol, hnl, rest, List.length_map, List.length_range, hzs, hzl]
  rw [← Nat.add_mul, ← Nat.add_mul]
  congr 1
  omega
 ·have h2 : ¬ sLen + n ≤ sCap := by omega
  have h3 : ¬ bytes = 0 := by omega
  have h4 := hold w1 hext
  have h5 := hnew w1 hext
  rcases hxT with ⟨e', hd⟩ | hd
  ·simp only [Builtin.append_, List.getElem?_toArray, List.getElem?_cons_zero, List.getElem?_cons_succ, Sem.run_bind, run_underlying hu, run_underlying hd, Result.andThen_ok, run_sizeOf hs, Sem.run_pure,
    Bool.false_eq_true, if_false, hlen, if_neg h2, run_typeInfo hi0, hb0, h3, or_self, and_false, if_neg hcapb, hcr, run_askRoom, h4, h5, Bool.not_false, if_true, run_zeroValue hi0 hz0, hrest, newRow, run_newObj]
   congr 1
   simp [w1]
  ·simp only [Builtin.append_, List.getElem?_toArray, List.getElem?_cons_zero, List.getElem?_cons_succ, Sem.run_bind, run_underlying hu, run_underlying hd, Result.andThen_ok, run_sizeOf hs, Sem.run_pure,
    Bool.false_eq_true, if_false, hlen, if_neg h2, run_typeInfo hi0, hb0, h3, or_self, and_false, if_neg hcapb, hcr, run_askRoom, h4, h5, Bool.not_false, if_true, run_zeroValue hi0 hz0, hrest, newRow, run_newObj]
   congr 1
   simp [w1]
theorem run_inplace {P : Program} {sT xT ty e : TypeId} {esz sLen sCap n : Nat} {base : Option Addr} {x : Value} {new : List Value}
 (hu : P.underlying sT = some (.slice e)) (hxT : (∃ e', P.underlying xT = some (.slice e')) ∨ P.underlying xT = some .string) (hs : szT P e = some esz)
 (hlen : ∀ w', (Builtin.lenOf x).run P w' = .ok n w') (hnew : ∀ w', Ext w w' → (Builtin.firstCells esz n x).run P w' = .ok new.toArray w') (hneed : sLen + n ≤ sCap) :
 (Builtin.append_ #[sT, xT] ty #[.slice base sLen sCap, x]).run P w =
  match base with
  | some a => ((storeCells (a.add (sLen * esz)) new).run P w).andThen fun _ w' => .ok (.slice base (sLen + n) sCap) w'
  | none => .ok (.slice base (sLen + n) sCap) w := by
 have h5 := hnew w (Ext.refl w)
 rcases hxT with ⟨e', hd⟩ | hd
 ·cases base <;>
   simp only [Builtin.append_, List.getElem?_toArray, List.getElem?_cons_zero, List.getElem?_cons_succ, Sem.run_bind, run_underlying hu, run_underlying hd, Result.andThen_ok, run_sizeOf hs, Sem.run_pure,
    Bool.false_eq_true, if_false, hlen, if_pos hneed, h5, Bool.not_false, if_true]
 ·cases base <;>
   simp only [Builtin.append_, List.getElem?_toArray, List.getElem?_cons_zero, List.getElem?_cons_succ, Sem.run_bind, run_underlying hu, run_underlying hd, Result.andThen_ok, run_sizeOf hs, Sem.run_pure,
    Bool.false_eq_true, if_false, hlen, if_pos hneed, h5, Bool.not_false, if_true]
theorem sl_rows {h : List Blk} (hr : HRel ι h w) {b wd i len : Nat} {cap : Option Nat} {v : Value} (hx : RA w ι (.sl b wd i len cap) v) {rows : List (List PV)} (hn : nth .dead h b = .pr wd rows)
 (hlen : i + len ≤ rows.length) : RowsAt w ι.M v wd ((rows.drop i).take len) := by
 have hl : ((rows.drop i).take len).length = len := by simp; omega
 cases hx with
 | sl hb hl' hcap hs' =>
   rename_i c o s cc
   refine ⟨_, _, by rw [hl], .inr ⟨_, rfl, rfl, fun n row hi => ?_⟩⟩
   have hi' : rows[i + n]? = some row := by
    rw [List.getElem?_take] at hi
    split at hi
    ·rwa [List.getElem?_drop] at hi
    ·cases hi
   obtain ⟨h1, h2⟩ := hr.row hb hn hi'
   exact ⟨h1, h2.later (by simp [Nat.add_mul, Nat.add_assoc])⟩
 | slz hcap => exact ⟨_, _, by rw [hl], .inl (List.eq_nil_of_length_eq_zero hl)⟩
theorem app_sound (hr : Rel cx ι st a w) {o : Oper} {s x : Operand} {s' x' : Opd} {sT xT e : TypeId} {esz bytes : Nat} {z : List PV} {c : Call} (ho : o.op = .call c) (hcal : c.callee = .builtin .append)
 (hargs : c.args = #[s, x]) (htys : c.argTypes = #[sT, xT])
 (hu : cx.P.underlying sT = some (.slice e)) (hxT : (∃ e', cx.P.underlying xT = some (.slice e')) ∨ cx.P.underlying xT = some .string) (hs : szT cx.P e = some esz) (hb : bytesT cx.P e = some bytes)
 (hz : zeroT cx.P e = some z) (hzl : z.length = esz) (hpos : 0 < bytes) (hesz : 0 < esz) (hcs : cOpd s = some s') (hcx : cOpd x = some x') (hd : ∀ t, o.dst = some t → cx.okb t = true)
 {k : St → Prop} (h : vro cx.E false (.app s' x' esz bytes) o.dst st k) {Q : Exit → Act → World → Prop} : o.wp cx.P a w (Kc cx k) Q := by
 have hsv := ev_sound hr.mem.hr.gl hr.tm hcs
 have hxv := ev_sound hr.mem.hr.gl hr.tm hcx
 have h : vapp cx.E st (ev st s') (ev st x') esz bytes o.dst k := force_of (k := fun x => vapp cx.E st (ev st s') x esz bytes o.dst k) (force_of (k := fun s => force (ev st x') fun x => vapp cx.E st s x esz bytes o.dst k) h)
 generalize ev st s' = as at h hsv
 generalize ev st x' = ax at h hxv
 have run : ∀ v w', (Builtin.append_ #[sT, xT] o.type #[a.eval s, a.eval x]).run cx.P w = .ok v w' → (execOp a.eval o).run cx.P w = .ok (.value v) w' := fun v w' h1 => by
  simp [execOp, ho, resolve, hcal, hargs, htys, invoke, builtin, h1]
 generalize hes : a.eval s = vs at hsv run
 generalize hex : a.eval x = vx at hxv run
 have grow : ∀ (old : List Value) (rold rnew : List (List PV)) (new : List Value) (base : Option Addr) (sLen sCap : Nat), vs = .slice base sLen sCap →
  RowVals w ι.M esz rold old → rold.length = sLen → (∀ w', Ext w w' → (Builtin.firstCells esz sLen (.slice base sLen sCap)).run cx.P w' = .ok old.toArray w') → Src w ι.M vx esz rnew new →
  sCap < sLen + rnew.length → (sLen + rnew.length) * bytes ≤ roomMost →
  ∃ (w' : World) (cs : Array Value) (cap : Nat), w'.heap = w.heap.push (.cells cs e (0, 0)) ∧ (w'.os = w.os ∧ w'.output = w.output) ∧ BlkAt w ι cs 0 (.pr esz (rold ++ rnew)) ∧
   sLen + rnew.length ≤ cap ∧ cap * esz = cs.size ∧ (execOp a.eval o).run cx.P w = .ok (.value (.slice (some ⟨w.heap.size, 0, none⟩) (sLen + rnew.length) cap)) w' := by
  intro old rold rnew new base sLen sCap hvs hold hol hfo hsrc hneed hroom
  subst hvs
  have hnl := hsrc.vals.1
  obtain ⟨w', cap, rest, h1, h2, h3, h4, h5⟩ := run_grow (w := w) (ty := o.type) (base := base) hu hxT hs hb hz hzl hpos (fun w' => hsrc.len cx.P w') hfo (by rw [hold.1, hol])
   (fun w' hw' => by have := hsrc.first cx.P rnew.length w' (Nat.le_refl _) hw'; rwa [← hnl, List.take_length] at this) hnl hneed hroom
  refine ⟨w', _, cap, h2, h3, ?_, h1, by rw [List.size_toArray]; exact h4.symm, run _ _ h5⟩
  exact (hold.append hsrc.vals).blk rest
 unfold vapp at h
 split at h
 ·
  rename_i wd
  obtain ⟨rnew, new, ⟨hroom, hk⟩, hsrc⟩ := vrows_src hr.mem.hr hxv h
  obtain ⟨oa, c0, hvs, hc, hcap, _⟩ := RP_isl (RA_p hsv)
  have hc0 : c0 = 0 := hcap 0 rfl
  subst hc0
  simp only [List.length_nil] at hvs
  by_cases hm : rnew.length = 0
  ·
   have hrn : rnew = [] := List.eq_nil_of_length_eq_zero hm
   subst hrn
   have hrun := run_inplace (w := w) (ty := o.type) (base := oa) (sLen := 0) (sCap := 0) hu hxT hs (fun w' => hsrc.len cx.P w') (fun w' hw' => hsrc.first cx.P 0 w' (Nat.le_refl _) hw') (by simp)
   have hrun2 : (execOp a.eval o).run cx.P w = .ok (.value (.slice oa 0 0)) w := by
    apply run
    rw [hvs, hrun]
    cases oa with
    | none => rfl
    | some ad => simp [storeCells]
   refine wp_value hrun2 ⟨ι, newSt st o.dst (.sl st.heap.length esz 0 0 none) (.pr esz []), ⟨?_, tm_put (st := ⟨st.tmps, st.heap ++ [Blk.pr esz []]⟩) hr.tm hr.sz.1 (fun t ht => cx.okn t (hd t ht)) (RA.slz (b := st.heap.length) (wd := esz) (i := 0) (cap := none) (oa := oa) (by simp)), Sz.put hr.sz hd _, by rw [Act.put_df]; exact hr.df⟩, hk⟩
   rw [newSt, put_heap]
   have hnone : ι st.heap.length = none := by
    cases hq : ι st.heap.length with
    | none => rfl
    | some q =>
      obtain ⟨c', o', s'⟩ := q
      obtain ⟨ob, _, hd⟩ := hr.mem.hr.size hq
      exact absurd (hr.mem.hr.blen hd) (Nat.lt_irrefl _)
   refine hr.mem.step ⟨hr.mem.hr.gl, fun b => ?_, hr.mem.hr.inj, hr.mem.hr.dis⟩ (fun d x _ h => h) (fun c h => .inl h) (Nat.le_refl _) ⟨rfl, rfl⟩ rfl rfl rfl rfl (fun _ _ => rfl)
    (by rw [List.length_append]; exact Nat.le_trans hr.mem.kl (Nat.le_add_right _ _)) (fun l r hl => ?_)
   ·rw [nth_append_new]
    by_cases e : b = st.heap.length
    ·rw [if_pos e, e, hnone]; exact .inl ⟨rfl, rfl⟩
    ·rw [if_neg e]; exact hr.mem.hr.blk b
   ·rw [nth_append_new] at hl
    split at hl
    ·cases hl
    ·exact hl
  ·obtain ⟨w', cs, cap, h1, h2, h3, h4, h5, h6⟩ := grow [] [] rnew new oa 0 0 hvs ⟨by simp, by simp, by simp⟩ rfl (fun w' _ => by cases oa <;> simp [Builtin.firstCells, loadCells, loadCellsFrom]) hsrc (by omega) (by simpa using hroom)
   simp only [Nat.zero_add, List.nil_append] at *
   refine wp_value h6 (lay_sound' (q := false) hr hd h1 h2 (fun o _ h => by omega) h3 (fun ι2 h7 => ?_) hk).1
   have := RA.sl (w := w') (ι := ι2) (wd := esz) (i := 0) (len := rnew.length) (cc := cap) (cap := none) h7 h4 (by simp) (by simp [h5])
   simpa using this
 ·
  rename_i wd rows c0 hne
  obtain ⟨rnew, new, ⟨⟨hneed, hroom⟩, hk⟩, hsrc⟩ := vrows_src hr.mem.hr hxv h
  cases hw : Nat.beq wd esz with
  | false => rw [hw] at hk; exact hk.elim
  | true =>
    rw [hw] at hk
    obtain rfl := Nat.eq_of_beq_eq_true hw
    obtain ⟨oa, cc, hvs, hc, hcap, hrw⟩ := RP_isl (RA_p hsv)
    have hcc : cc = c0 := hcap c0 rfl
    subst hcc
    have hra : RowsAt w ι.M vs wd rows := ⟨oa, cc, hvs, hrw.imp id fun ⟨ad, h1, h2, h3, h4, h5⟩ => ⟨ad, h1, h2, h5⟩⟩
    obtain ⟨old, hso⟩ := hra.src
    obtain ⟨w', cs, cap, h1, h2, h3, h4, h5, h6⟩ := grow old rows rnew new oa rows.length cc hvs hso.vals rfl (fun w' hw' => by
     have := hso.first cx.P rows.length w' (Nat.le_refl _) hw'
     rw [← hso.vals.1, List.take_length, hvs] at this; exact this) hsrc hneed hroom
    refine wp_value h6 (lay_sound' (q := false) hr hd h1 h2 (fun o _ h => by omega) h3 (fun ι2 h7 => ?_) hk).1
    have := RA.sl (w := w') (ι := ι2) (wd := wd) (i := 0) (len := rows.length + rnew.length) (cc := cap) (cap := none) h7 h4 (by simp) (by simp [h5])
    simpa using this
 ·
  rename_i wd rows
  obtain ⟨rnew, new, ⟨hrn, hk⟩, hsrc⟩ := vrows_src hr.mem.hr hxv h
  subst hrn
  obtain ⟨oa, cc, hvs, hc, hcap, hrw⟩ := RP_isl (RA_p hsv)
  have hrun := run_inplace (w := w) (ty := o.type) (base := oa) (sLen := rows.length) (sCap := cc) hu hxT hs (fun w' => hsrc.len cx.P w') (fun w' hw' => hsrc.first cx.P 0 w' (Nat.le_refl _) hw') (by simpa using hc)
  have hrun2 : (execOp a.eval o).run cx.P w = .ok (.value vs) w := by
   apply run
   rw [hvs, hrun]
   cases oa with
   | none => rfl
   | some ad => simp [storeCells]
  exact wp_value hrun2 ⟨ι, _, hr.put hd hsv, hk⟩
 ·rename_i b wd i len cap0
  split at h
  ·rename_i wd' rows hn
   cases hw : (Nat.beq wd wd' && Nat.beq wd esz && !cx.E.fx b) with
   | false => rw [hw] at h; exact h.elim
   | true =>
     rw [hw] at h
     simp only [cond_true] at h
     obtain ⟨⟨e1, e2⟩, hfx⟩ := by simpa using hw
     subst e1; subst e2
     obtain ⟨rnew, new, ⟨hfull, hroom, hk⟩, hsrc⟩ := vrows_src hr.mem.hr hxv h
     rw [forceSt_eq] at hk
     have hblt : b < st.heap.length := hr.mem.hr.blen (by rw [hn]; simp)
     have hra := sl_rows hr.mem.hr hsv hn (by omega)
     have etake : (rows.drop i).take len = rows.drop i := List.take_of_length_le (by simp; omega)
     rw [etake] at hra
     have hlen : (rows.drop i).length = len := by simp; omega
     rw [dropN_eq] at hk
     obtain ⟨old, hso⟩ := hra.src
     have hshape : ∃ base sCap, vs = .slice base len sCap ∧ len ≤ sCap := by
      cases hsv with
      | sl hb hl hcap hs' => exact ⟨_, _, rfl, hl⟩
      | slz hcap => exact ⟨_, _, rfl, Nat.le_refl _⟩
     obtain ⟨base, sCap, hvs, hls⟩ := hshape
     by_cases hneed : len + rnew.length ≤ sCap
     ·
      have hrun := run_inplace (w := w) (ty := o.type) (base := base) (sLen := len) (sCap := sCap) hu hxT hs (fun w' => hsrc.len cx.P w')
       (fun w' hw' => by have := hsrc.first cx.P rnew.length w' (Nat.le_refl _) hw'; rw [← hsrc.vals.1, List.take_length] at this; exact this) hneed
      cases hsv with
      | slz hcap =>
        cases hvs
        have hm : rnew = [] := List.eq_nil_of_length_eq_zero (by omega)
        subst hm
        have hd0 : rows.drop i = [] := List.eq_nil_of_length_eq_zero hlen
        have hnew0 : new = [] := List.eq_nil_of_length_eq_zero (by rw [hsrc.vals.1]; simp)
        subst hnew0
        have hrun2 : (execOp a.eval o).run cx.P w = .ok (.value (.slice base 0 0)) w := by
         apply run
         rw [hrun]
         cases base with
         | none => rfl
         | some ad => simp [storeCells]
        obtain ⟨hm, hL⟩ := hr.mem.turn (w' := w) hblt hfx (p := none) (blk := .pr wd (rows.drop i ++ [])) (c := w.heap.size) (.inr (Nat.le_refl _)) (by simp) (fun _ _ _ h => h) (Nat.le_refl _) ⟨rfl, rfl⟩
         (fun _ => .inl ⟨rfl, by rw [hd0]; rfl⟩)
        have hι : ∀ b', b' ≠ b → ∀ q, ι b' = some q → (ι.upd b none) b' = some q := fun b' e q hq => by rw [Inj.upd_ne _ _ e]; exact hq
        exact wp_value hrun2 ⟨_, _, Rel.put (st := ⟨killT b st.tmps, setNth (killH b st.heap) b (.pr wd (rows.drop i ++ []))⟩) ⟨hm, tm_kill hL hι hr.tm, hr.sz, hr.df⟩ hd (.slz (cap := none) (by simp)), hk⟩
      | sl hb hl hcap hs' =>
        rename_i c o' s cc
        cases hvs
        have hrb := hr.mem.hr.blk b
        rw [hn, hb] at hrb
        obtain ⟨cs, ty, fz, hc, ht, hsz, hlen2, hrl, hcell⟩ := hrb.at
        have hmul : (i + (len + rnew.length)) * wd ≤ (i + sCap) * wd := Nat.mul_le_mul_right _ (by omega)
        have hsplit : (i + (len + rnew.length)) * wd = i * wd + len * wd + rnew.length * wd := by rw [Nat.add_mul, Nat.add_mul, Nat.add_assoc]
        have hnl := hsrc.vals.1
        have hbound : o' + i * wd + len * wd + new.length ≤ cs.size := by omega
        have hst := run_storeCells (P := cx.P) c (o' + i * wd + len * wd) ty fz new 0 cs w hc (by omega) ht hsrc.vals.one
        simp only [Nat.add_zero] at hst
        have hrun2 : (execOp a.eval o).run cx.P w = .ok (.value (.slice (some ⟨c, o' + i * wd, none⟩) (len + rnew.length) sCap)) (setW w c (.cells (segA cs (o' + i * wd + len * wd) new) ty fz)) := by
         apply run
         rw [hrun]
         simp only [add_none, hst]
         rfl
        have hblk : BlkAt w ι (segA cs (o' + i * wd + len * wd) new) (o' + i * wd) (.pr wd (rows.drop i ++ rnew)) := by
         refine ⟨?_, fun n r hr' => ?_, fun n r j z hr' hz => ?_⟩
         ·rw [segA_size _ _ _ hbound, List.length_append, hlen, Nat.add_mul]; omega
         ·rw [List.getElem?_append] at hr'
          split at hr'
          ·rw [List.getElem?_drop] at hr'; exact hrl _ _ hr'
          ·exact hsrc.vals.2.1 _ _ hr'
         ·rw [segA_get _ _ _ hbound]
          rw [List.getElem?_append, hlen] at hr'
          split at hr'
          ·rename_i hlt
           rw [List.getElem?_drop] at hr'
           have hj : j < wd := by rw [← hrl _ _ hr']; exact (List.getElem?_eq_some_iff.1 hz).1
           have := row_pos hlt hj
           rw [if_neg (by omega)]
           obtain ⟨g1, u, g2, g3⟩ := hcell _ _ j z hr' hz
           exact ⟨g1, u, by rw [← g2]; congr 1; rw [Nat.add_mul]; omega, g3⟩
          ·rename_i hge
           obtain ⟨g1, u, g2, g3⟩ := hsrc.vals.2.2 _ _ j z hr' hz
           have hlt := (List.getElem?_eq_some_iff.1 g2).1
           have e3 : n * wd = len * wd + (n - len) * wd := by rw [← Nat.add_mul]; congr 1; omega
           rw [if_pos (by omega)]
           exact ⟨g1, u, by rw [← g2]; congr 1; omega, g3⟩
        obtain ⟨hm, hL⟩ := hr.mem.turn (w' := setW w c (.cells (segA cs (o' + i * wd + len * wd) new) ty fz)) hblt hfx (p := some (c, o' + i * wd, s)) (blk := .pr wd (rows.drop i ++ rnew)) (c := c)
         (.inl ⟨o', s, hb⟩) (fun c' o2 s2 h => by cases h; rfl) (fun d z hd' hz => by rw [setW_ne _ _ hd']; exact hz) (by simp [setW]) ⟨rfl, rfl⟩
         (fun hL => by
          have := (hblk.later_pr hL).rb (ty := ty) (fz := fz) (setW_self w c _ (Array.getElem?_eq_some_iff.1 hc).1) (by rw [segA_size _ _ _ hbound]; exact ht)
          rw [segA_size _ _ _ hbound, hsz] at this
          exact this)
        have hι : ∀ b', b' ≠ b → ∀ q, ι b' = some q → (ι.upd b (some (c, o' + i * wd, s))) b' = some q := fun b' e q hq => by rw [Inj.upd_ne _ _ e]; exact hq
        refine wp_value hrun2 ⟨_, _, Rel.put (st := ⟨killT b st.tmps, setNth (killH b st.heap) b (.pr wd (rows.drop i ++ rnew))⟩) ⟨hm, tm_kill hL hι hr.tm, hr.sz, hr.df⟩ hd ?_, hk⟩
        have := RA.sl (w := setW w c (.cells (segA cs (o' + i * wd + len * wd) new) ty fz)) (ι := ι.upd b (some (c, o' + i * wd, s))) (wd := wd) (i := 0) (len := len + rnew.length) (cc := sCap) (cap := none)
         (Inj.upd_self _ _ _) hneed (by simp) (by rw [Nat.zero_add]; rw [Nat.add_mul] at hs'; omega)
        simpa using this
     ·
      obtain ⟨w', cs, cap, h1, h2, h3, h4, h5, h6⟩ := grow old (rows.drop i) rnew new base len sCap hvs hso.vals hlen (fun w' hw' => by
       have := hso.first cx.P len w' (by omega) hw'
       rw [← hlen, ← hso.vals.1, List.take_length, hvs] at this
       rw [hlen] at this; exact this) hsrc (by omega) hroom
      have hpush : w'.heap[w.heap.size]? = some (.cells cs e (0, 0)) := by rw [h1]; exact pushW_new w _
      have hold : ∀ (d : Nat) (x : Obj), w.heap[d]? = some x → w'.heap[d]? = some x := fun d x hx => by rw [h1]; exact pushW_old w _ d x hx
      obtain ⟨hm, hL⟩ := hr.mem.turn (w' := w') hblt hfx (p := some (w.heap.size, 0, cs.size)) (blk := .pr wd (rows.drop i ++ rnew)) (c := w.heap.size)
       (.inr (Nat.le_refl _)) (fun c' o2 s2 h => by cases h; rfl) (fun d z _ hz => hold d z hz) (Ext.size hold) h2
       (fun hL => (h3.later_pr hL).rb hpush (fun o _ h => by omega))
      have hι : ∀ b', b' ≠ b → ∀ q, ι b' = some q → (ι.upd b (some (w.heap.size, 0, cs.size))) b' = some q := fun b' e q hq => by rw [Inj.upd_ne _ _ e]; exact hq
      refine wp_value h6 ⟨_, _, Rel.put (st := ⟨killT b st.tmps, setNth (killH b st.heap) b (.pr wd (rows.drop i ++ rnew))⟩) ⟨hm, tm_kill hL hι hr.tm, hr.sz, hr.df⟩ hd ?_, hk⟩
      have := RA.sl (w := w') (ι := ι.upd b (some (w.heap.size, 0, cs.size))) (wd := wd) (i := 0) (len := len + rnew.length) (cc := cap) (cap := none)
       (Inj.upd_self _ _ _) h4 (by simp) (by simp [h5])
      simpa using this
  ·exact h.elim
 ·exact h.elim
end
end Hk
namespace Hk
open Go
set_option linter.unusedVariables false
set_option linter.unusedSimpArgs false
section
variable {cx : Cx} {ι ι0 : Inj} {st : St} {a : Act} {w : World}
theorem RowVals.take {M : Nat → Prop} {esz : Nat} {rows : List (List PV)} {vs : List Value} (h : RowVals w M esz rows vs) (n : Nat) (hn : n ≤ rows.length) :
 RowVals w M esz (rows.take n) (vs.take (n * esz)) := by
 have hle := Nat.mul_le_mul_right esz hn
 refine ⟨by rw [List.length_take, List.length_take, h.1, Nat.min_eq_left hle, Nat.min_eq_left hn], fun i row hi => ?_, fun i row j x hi hx => ?_⟩
 ·rw [List.getElem?_take] at hi
  split at hi
  ·exact h.2.1 _ _ hi
  ·cases hi
 ·rw [List.getElem?_take] at hi
  split at hi
  ·rename_i hlt
   obtain ⟨g1, u, g2, g3⟩ := h.2.2 i row j x hi hx
   have hj : j < esz := by rw [← h.2.1 _ _ hi]; exact (List.getElem?_eq_some_iff.1 hx).1
   exact ⟨g1, u, by rw [List.getElem?_take_of_lt (row_pos hlt hj)]; exact g2, g3⟩
  ·cases hi
theorem run_copy {P : Program} {dT sT ty e : TypeId} {esz dLen dCap n : Nat} {base : Option Addr} {x : Value} {rows : List (List PV)} {vs : List Value}
 (hu : P.underlying dT = some (.slice e)) (hs : szT P e = some esz) (hsrc : Src w ι.M x esz rows vs) (hn : n = min rows.length dLen) :
 (Builtin.copy_ #[dT, sT] ty #[.slice base dLen dCap, x]).run P w =
  match base with
  | some a => ((storeCells a (vs.take (n * esz))).run P w).andThen fun _ w' => .ok (goInt n) w'
  | none => .ok (goInt n) w := by
 have h5 := hsrc.first P n w (by omega) (Ext.refl w)
 have hn' : Nat.min rows.length dLen = n := hn.symm
 cases base <;>
  simp only [Builtin.copy_, List.getElem?_toArray, List.getElem?_cons_zero, List.getElem?_cons_succ, Sem.run_bind, run_underlying hu, Result.andThen_ok, hsrc.len, hn', run_sizeOf hs, h5, Sem.run_pure]
theorem copy_sound (hr : Rel cx ι st a w) {o : Oper} {s x : Operand} {s' x' : Opd} {dT sT e : TypeId} {esz : Nat} {c : Call} (ho : o.op = .call c) (hcal : c.callee = .builtin .copy)
 (hargs : c.args = #[s, x]) (htys : c.argTypes = #[dT, sT])
 (hu : cx.P.underlying dT = some (.slice e)) (hs : szT cx.P e = some esz) (hcs : cOpd s = some s') (hcx : cOpd x = some x') (hd : ∀ t, o.dst = some t → cx.okb t = true)
 {k : St → Prop} (h : vro cx.E false (.copy s' x' esz) o.dst st k) {Q : Exit → Act → World → Prop} : o.wp cx.P a w (Kc cx k) Q := by
 have hsv := ev_sound hr.mem.hr.gl hr.tm hcs
 have hxv := ev_sound hr.mem.hr.gl hr.tm hcx
 have h : vcopy st (ev st s') (ev st x') esz o.dst k := force_of (k := fun x => vcopy st (ev st s') x esz o.dst k) (force_of (k := fun s => force (ev st x') fun x => vcopy st s x esz o.dst k) h)
 generalize ev st s' = as at h hsv
 generalize ev st x' = ax at h hxv
 have run : ∀ v w', (Builtin.copy_ #[dT, sT] o.type #[a.eval s, a.eval x]).run cx.P w = .ok v w' → (execOp a.eval o).run cx.P w = .ok (.value v) w' := fun v w' h1 => by
  simp [execOp, ho, resolve, hcal, hargs, htys, invoke, builtin, h1]
 generalize hes : a.eval s = vs at hsv run
 generalize hex : a.eval x = vx at hxv run
 unfold vcopy at h
 split at h
 ·rename_i b wd i len cap0
  split at h
  ·rename_i wd' rows hn
   cases hw : (Nat.beq wd wd' && Nat.beq wd esz) with
   | false => rw [hw] at h; exact h.elim
   | true =>
     rw [hw] at h
     simp only [cond_true] at h
     obtain ⟨e1, e2⟩ := by simpa using hw
     subst e1; subst e2
     obtain ⟨rnew, new, ⟨hfull, hk⟩, hsrc⟩ := vrows_src hr.mem.hr hxv h
     generalize hm : min rnew.length len = m at hk
     have hmx : (rnew.take m).length = m := by simp; omega
     have hval := hsrc.vals.take m (by omega)
     have hvl := hval.1
     rw [hmx] at hvl
     cases hsv with
     | slz hcap =>
       rename_i oa
       have hm0 : m = 0 := by omega
       subst hm0
       have hrun := run_copy (w := w) (ι := ι) (dT := dT) (sT := sT) (ty := o.type) (base := oa) (dLen := 0) (dCap := 0) (n := 0) hu hs hsrc (by omega)
       have hrun2 : (execOp a.eval o).run cx.P w = .ok (.value (.int .i64 (0 : Nat))) w := by
        apply run
        rw [hrun]
        cases oa with
        | none => rfl
        | some ad => simp [storeCells, goInt]
       have hsame : Mem cx ι (setNth st.heap b (.pr wd (rows.take i ++ rnew.take 0 ++ rows.drop (i + 0)))) w := by
        have : rows.take i ++ rnew.take 0 ++ rows.drop (i + 0) = rows := by simp
        rw [this]
        have : setNth st.heap b (.pr wd rows) = st.heap := by
         rw [setNth_eq]
         apply List.ext_getElem?
         intro j
         rw [List.getElem?_set]
         split
         ·rename_i e
          subst e
          rw [nth_eq] at hn
          cases hq : st.heap[b]? with
          | none => rw [hq] at hn; cases hn
          | some q =>
            rw [hq] at hn
            simp at hn
            subst hn
            simp [(List.getElem?_eq_some_iff.1 hq).1]
         ·rfl
        rw [this]; exact hr.mem
       exact wp_value hrun2 ⟨ι, _, Rel.put (st := ⟨st.tmps, setNth st.heap b (.pr wd (rows.take i ++ rnew.take 0 ++ rows.drop (i + 0)))⟩) ⟨hsame, hr.tm, hr.sz, hr.df⟩ hd (.p (.int _ _)), hk⟩
     | sl hb hl hcap hs' =>
       rename_i c o' s cc
       have hrb := hr.mem.hr.blk b
       rw [hn, hb] at hrb
       obtain ⟨cs, ty, fz, hc, ht, hsz, hlen2, hrl, hcell⟩ := hrb.at
       have hmul : (i + m) * wd ≤ rows.length * wd := Nat.mul_le_mul_right _ (by omega)
       rw [Nat.add_mul] at hmul
       have hbound : o' + i * wd + (new.take (m * wd)).length ≤ cs.size := by omega
       have hst := run_storeCells (P := cx.P) c (o' + i * wd) ty fz (new.take (m * wd)) 0 cs w hc (by omega) ht hval.one
       simp only [Nat.add_zero] at hst
       have hrun := run_copy (w := w) (ι := ι) (dT := dT) (sT := sT) (ty := o.type) (base := some ⟨c, o' + i * wd, none⟩) (dLen := len) (dCap := cc) (n := m) hu hs hsrc (by omega)
       have hrun2 : (execOp a.eval o).run cx.P w = .ok (.value (.int .i64 (m : Nat))) (setW w c (.cells (segA cs (o' + i * wd) (new.take (m * wd))) ty fz)) := by
        apply run
        rw [hrun]
        simp only [hst]
        rfl
       have hblk : BlkAt w ι (segA cs (o' + i * wd) (new.take (m * wd))) o' (.pr wd (rows.take i ++ rnew.take m ++ rows.drop (i + m))) := by
        refine ⟨?_, fun n r hr' => ?_, fun n r j z hr' hz => ?_⟩
        ·rw [segA_size _ _ _ hbound]
         have := seg_len rows i (rnew.take m) (by omega)
         rw [hmx] at this
         rw [this]; exact hlen2
        ·have hg := seg_get rows i (rnew.take m) (by omega) n
         rw [hmx] at hg
         rw [hg] at hr'
         split at hr'
         ·exact hval.2.1 _ _ hr'
         ·exact hrl _ _ hr'
        ·rw [segA_get _ _ _ hbound, hvl]
         have hg := seg_get rows i (rnew.take m) (by omega) n
         rw [hmx] at hg
         rw [hg] at hr'
         split at hr'
         ·rename_i hin
          obtain ⟨g1, u, g2, g3⟩ := hval.2.2 _ _ j z hr' hz
          have hlt := (List.getElem?_eq_some_iff.1 g2).1
          have e3 : n * wd = i * wd + (n - i) * wd := by rw [← Nat.add_mul]; congr 1; omega
          rw [if_pos (by omega)]
          exact ⟨g1, u, by rw [← g2]; congr 1; omega, g3⟩
         ·rename_i hout
          have hj : j < wd := by rw [← hrl _ _ hr']; exact (List.getElem?_eq_some_iff.1 hz).1
          rw [if_neg]
          ·exact hcell n r j z hr' hz
          ·rintro ⟨q1, q2⟩
           rcases Nat.lt_or_ge n i with h4 | h4
           ·have := row_pos h4 hj; omega
           ·have h5 : i + m ≤ n := by omega
            have := Nat.mul_le_mul_right wd h5
            rw [Nat.add_mul] at this
            omega
       obtain ⟨hm', hL⟩ := hr.mem.write hb (w' := setW w c (.cells (segA cs (o' + i * wd) (new.take (m * wd))) ty fz)) (blk := .pr wd (rows.take i ++ rnew.take m ++ rows.drop (i + m)))
        (fun d z hd' hz => by rw [setW_ne _ _ hd']; exact hz) (by simp [setW]) ⟨rfl, rfl⟩
        (fun hL => by
         have := (hblk.later_pr hL).rb (ty := ty) (fz := fz) (setW_self w c _ (Array.getElem?_eq_some_iff.1 hc).1) (by rw [segA_size _ _ _ hbound]; exact ht)
         rw [segA_size _ _ _ hbound, hsz] at this
         exact this)
       exact wp_value hrun2 ⟨ι, _, Rel.put (st := ⟨st.tmps, setNth st.heap b (.pr wd (rows.take i ++ rnew.take m ++ rows.drop (i + m)))⟩) ⟨hm', tm_later hL (fun _ _ h => h) hr.tm, hr.sz, hr.df⟩ hd (.p (.int _ _)), hk⟩
  ·exact h.elim
 ·rename_i b wd i j e' len
  split at h
  ·rename_i wd' rows hn
   cases hw : (Nat.beq wd wd' && Nat.beq e' esz && Nat.beq e' 1) with
   | false => rw [hw] at h; exact h.elim
   | true =>
     rw [hw] at h
     simp only [cond_true] at h
     obtain ⟨⟨e1, e2⟩, e3⟩ := by simpa using hw
     subst e1; subst e2; subst e3
     obtain ⟨rnew, new, ⟨row, ys, hrow, hfull, hys, hk⟩, hsrc⟩ := vrows_src hr.mem.hr hxv h
     generalize hm : min rnew.length len = m at hk hys
     have hmx : (rnew.take m).length = m := by simp; omega
     have hyl : ys.length = m := by have := congrArg List.length hys; rw [hmx] at this; simpa using this.symm
     have hval := hsrc.vals.take m (by omega)
     have hvl : (new.take (m * 1)).length = m := by have := hval.1; rw [hmx] at this; omega
     cases hsv with
     | cslz =>
       rename_i cc oa
       have hm0 : m = 0 := by omega
       subst hm0
       have hrun := run_copy (w := w) (ι := ι) (dT := dT) (sT := sT) (ty := o.type) (base := oa) (dLen := 0) (dCap := cc) (n := 0) hu hs hsrc (by omega)
       have hrun2 : (execOp a.eval o).run cx.P w = .ok (.value (.int .i64 (0 : Nat))) w := by
        apply run
        rw [hrun]
        cases oa with
        | none => rfl
        | some ad => simp [storeCells, goInt]
       have hy0 : ys = [] := List.eq_nil_of_length_eq_zero hyl
       subst hy0
       have hsame : Mem cx ι (setNth st.heap b (.pr wd (rows.set i (row.take j ++ [] ++ row.drop (j + 0))))) w := by
        have : row.take j ++ [] ++ row.drop (j + 0) = row := by simp
        rw [this]
        have : rows.set i row = rows := by
         apply List.ext_getElem?
         intro n
         rw [List.getElem?_set]
         split
         ·rename_i e; subst e; rw [hrow]; simp [(List.getElem?_eq_some_iff.1 hrow).1]
         ·rfl
        rw [this]
        have : setNth st.heap b (.pr wd rows) = st.heap := by
         rw [setNth_eq]
         apply List.ext_getElem?
         intro j
         rw [List.getElem?_set]
         split
         ·rename_i e
          subst e
          rw [nth_eq] at hn
          cases hq : st.heap[b]? with
          | none => rw [hq] at hn; cases hn
          | some q =>
            rw [hq] at hn
            simp at hn
            subst hn
            simp [(List.getElem?_eq_some_iff.1 hq).1]
         ·rfl
        rw [this]; exact hr.mem
       exact wp_value hrun2 ⟨ι, _, Rel.put (st := ⟨st.tmps, setNth st.heap b (.pr wd (rows.set i (row.take j ++ [] ++ row.drop (j + 0))))⟩) ⟨hsame, hr.tm, hr.sz, hr.df⟩ hd (.p (.int _ _)), hk⟩
     | csl hb hl =>
       rename_i c o' s cc
       have hrb := hr.mem.hr.blk b
       rw [hn, hb] at hrb
       obtain ⟨cs, ty, fz, hc, ht, hsz, hlen2, hrl, hcell⟩ := hrb.at
       have hrw := hrl i row hrow
       have hilt : i < rows.length := (List.getElem?_eq_some_iff.1 hrow).1
       have himul : i * wd + wd ≤ rows.length * wd := by
        have := Nat.mul_le_mul_right wd (show i + 1 ≤ rows.length from hilt)
        rwa [Nat.add_mul, Nat.one_mul] at this
       have hbound : o' + (i * wd + j) + (new.take (m * 1)).length ≤ cs.size := by omega
       have hst := run_storeCells (P := cx.P) c (o' + (i * wd + j)) ty fz (new.take (m * 1)) 0 cs w hc (by omega) ht hval.one
       simp only [Nat.add_zero] at hst
       have hrun := run_copy (w := w) (ι := ι) (dT := dT) (sT := sT) (ty := o.type) (base := some ⟨c, o' + (i * wd + j), none⟩) (dLen := len) (dCap := cc) (n := m) hu hs hsrc (by omega)
       have hrun2 : (execOp a.eval o).run cx.P w = .ok (.value (.int .i64 (m : Nat))) (setW w c (.cells (segA cs (o' + (i * wd + j)) (new.take (m * 1))) ty fz)) := by
        apply run
        rw [hrun]
        simp only [hst]
        rfl
       have hrow' : (row.take j ++ ys ++ row.drop (j + m)).length = wd := by
        rw [← hyl, seg_len _ _ _ (by omega)]; exact hrw
       have hblk : BlkAt w ι (segA cs (o' + (i * wd + j)) (new.take (m * 1))) o' (.pr wd (rows.set i (row.take j ++ ys ++ row.drop (j + m)))) := by
        refine ⟨by rw [segA_size _ _ _ hbound, List.length_set]; exact hlen2, fun n r hr => ?_, fun n r q z hr hz => ?_⟩
        ·rw [List.getElem?_set] at hr
         split at hr
         ·cases hr; exact hrow'
         ·exact hrl n r hr
        ·rw [segA_get _ _ _ hbound, hvl]
         rw [List.getElem?_set] at hr
         split at hr
         ·rename_i e
          subst e
          cases hr
          rw [← hyl, seg_get _ _ _ (by omega)] at hz
          split at hz
          ·rename_i hin
           rw [if_pos (by omega)]
           have hyr : (rnew.take m)[q - j]? = some [z] := by rw [hys]; simp [hz]
           obtain ⟨g1, u, g2, g3⟩ := hval.2.2 _ _ 0 z hyr rfl
           exact ⟨g1, u, by rw [← g2]; congr 1; omega, g3⟩
          ·rename_i hin
           rw [if_neg (by omega)]
           exact hcell i row q z hrow hz
         ·rename_i e
          have hmw : q < wd := by
           have := (List.getElem?_eq_some_iff.1 hz).1
           rw [hrl n r hr] at this; exact this
          rw [if_neg]
          ·exact hcell n r q z hr hz
          ·rintro ⟨q1, q2⟩
           rcases Nat.lt_or_gt_of_ne e with h4 | h4
           ·have := Nat.mul_le_mul_right wd (show i + 1 ≤ n from h4)
            rw [Nat.add_mul, Nat.one_mul] at this
            omega
           ·have := Nat.mul_le_mul_right wd (show n + 1 ≤ i from h4)
            rw [Nat.add_mul, Nat.one_mul] at this
            omega
       obtain ⟨hm', hL⟩ := hr.mem.write hb (w' := setW w c (.cells (segA cs (o' + (i * wd + j)) (new.take (m * 1))) ty fz)) (blk := .pr wd (rows.set i (row.take j ++ ys ++ row.drop (j + m))))
        (fun d z hd' hz => by rw [setW_ne _ _ hd']; exact hz) (by simp [setW]) ⟨rfl, rfl⟩
        (fun hL => by
         have := (hblk.later_pr hL).rb (ty := ty) (fz := fz) (setW_self w c _ (Array.getElem?_eq_some_iff.1 hc).1) (by rw [segA_size _ _ _ hbound]; exact ht)
         rw [segA_size _ _ _ hbound, hsz] at this
         exact this)
       exact wp_value hrun2 ⟨ι, _, Rel.put (st := ⟨st.tmps, setNth st.heap b (.pr wd (rows.set i (row.take j ++ ys ++ row.drop (j + m))))⟩) ⟨hm', tm_later hL (fun _ _ h => h) hr.tm, hr.sz, hr.df⟩ hd (.p (.int _ _)), hk⟩
  ·exact h.elim
 ·exact h.elim
end
end Hk
namespace Hk
open Go
set_option linter.unusedVariables false
set_option linter.unusedSimpArgs false
theorem PLeL.len : ∀ {xs ys : List PV}, PLeL xs ys → xs.length = ys.length
 | _, _, .refl _ => rfl
 | _, _, .cons _ h => by simp [h.len]
theorem PLeR.len : ∀ {xs ys : List (List PV)}, PLeR xs ys → xs.length = ys.length
 | _, _, .refl _ => rfl
 | _, _, .cons _ h => by simp [h.len]
theorem PLe.one {x y : PV} (h : PLe x y) (h1 : x.one = true) : y.one = true := by
 cases h <;> first | exact h1 | rfl
theorem PLeL.get : ∀ {xs ys : List PV}, PLeL xs ys → ∀ (i : Nat) y, ys[i]? = some y → ∃ x, xs[i]? = some x ∧ PLe x y
 | _, _, .refl _, i, y, h => ⟨y, h, .refl y⟩
 | _, _, .cons h0 h1, i, y, h => by
   cases i with
   | zero => simp at h; subst h; exact ⟨_, rfl, h0⟩
   | succ i => simp at h; simpa using h1.get i y h
theorem PLeR.get : ∀ {xs ys : List (List PV)}, PLeR xs ys → ∀ (i : Nat) y, ys[i]? = some y → ∃ x, xs[i]? = some x ∧ PLeL x y
 | _, _, .refl _, i, y, h => ⟨y, h, .refl y⟩
 | _, _, .cons h0 h1, i, y, h => by
   cases i with
   | zero => simp at h; subst h; exact ⟨_, rfl, h0⟩
   | succ i => simp at h; simpa using h1.get i y h
section
variable {w : World} {M : Nat → Prop}
theorem PLe.sound {x : PV} {v : Value} (h : RP w M x v) : ∀ {y : PV}, PLe x y → RP w M y v := by
 induction h with
 | int k n => intro y h; cases h; exact .int k n
 | b x => intro y h; cases h; exact .b x
 | str l => intro y h; cases h; exact .str l
 | lit v h => intro y h'; cases h'; exact .lit v h
 | nil h =>
   intro y hle
   cases hle with
   | refl => exact .nil h
   | isl hr hc =>
     have := hr.len
     rename_i rows' _
     have e : rows' = [] := List.eq_nil_of_length_eq_zero (by simpa using this.symm)
     subst e
     exact .nil fun k hk => h k (by rcases hc with rfl | rfl; cases hk; exact hk)
   | nil hc => exact .nil fun k hk => h k (by rcases hc with rfl | rfl; cases hk; exact hk)
 | isl hs hM hb hc hcap hrow hone hcell hrp ih =>
   intro y hle
   cases hle with
   | refl => exact .isl hs hM hb hc hcap hrow hone hcell hrp
   | isl hr hcc =>
     rename_i wd rows cap a c cv rows' cap'
     have hlen := hr.len
     have := RP.isl (rows := rows') (cap := cap') (cv := cv) (wd := wd) (c := c) hs hM hb (by omega) (fun k hk => hcap k (by rcases hcc with rfl | rfl; cases hk; exact hk))
      (fun i row hi => by obtain ⟨r0, h0, h1⟩ := hr.get i row hi; rw [← h1.len]; exact hrow i r0 h0)
      (fun i row j x hi hx => by
       obtain ⟨r0, h0, h1⟩ := hr.get i row hi
       obtain ⟨x0, g0, g1⟩ := h1.get j x hx
       exact g1.one (hone i r0 j x0 h0 g0))
      (fun i row j x hi hx => by
       obtain ⟨r0, h0, h1⟩ := hr.get i row hi
       obtain ⟨x0, g0, g1⟩ := h1.get j x hx
       exact hcell i r0 j x0 h0 g0)
      (fun i row j x hi hx => by
       obtain ⟨r0, h0, h1⟩ := hr.get i row hi
       obtain ⟨x0, g0, g1⟩ := h1.get j x hx
       exact ih i r0 j x0 h0 g0 g1)
     rw [hlen]; exact this
   | nil hcc => exact .nil fun k hk => hcap k (by rcases hcc with rfl | rfl; cases hk; exact hk)
 | irow hs hM hb hone hcell hrp ih => intro y h; cases h; exact .irow hs hM hb hone hcell hrp
 | agg hl hone h ih =>
   intro y hle
   cases hle with
   | refl => exact .agg hl hone h
   | agg hL =>
     refine .agg (by rw [hl, hL.len]) (fun i y hy => ?_) (fun i y hy => ?_)
     all_goals obtain ⟨x0, g0, g1⟩ := hL.get i y hy
     ·exact g1.one (hone i x0 g0)
     ·exact ih i x0 g0 g1
 | fn h1 h2 h3 h4 ih3 ih4 => intro y h; cases h; exact .fn h1 h2 h3 h4
 | ifc h ih => intro y h'; cases h'; exact .ifc h
end
theorem KLeL.get {h : List Blk} {fz kp : Nat → Bool} : ∀ {xs ys : List AV}, KLeL h fz kp xs ys → xs.length = ys.length ∧ ∀ (i : Nat) y, ys[i]? = some y → ∃ x, xs[i]? = some x ∧ KLe h fz kp x y
 | _, _, .nil => ⟨rfl, by simp⟩
 | _, _, .cons h0 h1 => ⟨by simp [h1.get.1], fun i y hy => by
   cases i with
   | zero => simp at hy; subst hy; exact ⟨_, rfl, h0⟩
   | succ i => simp at hy; simpa using h1.get.2 i y hy⟩
section
variable {w : World} {ι ι2 : Inj} {h : List Blk} {fz kp : Nat → Bool}
theorem KLe.sound (hr : HRel ι h w) (hfz : ∀ b, fz b = true → ∀ c o s, ι b = some (c, o, s) → ¬ ι2.M c) (hkp : ∀ b, kp b = true → ∀ p, ι b = some p → ι2 b = some p)
 (hM : ∀ c, ι2.M c → ι.M c) {x : AV} {v : Value} (hx : RA w ι x v) : ∀ {y : AV}, KLe h fz kp x y → RA w ι2 y v := by
 have hL : Later ι.M w w ι2.M := ⟨fun _ _ _ h => h, fun c hc => .inl (hM c hc), Nat.le_refl _⟩
 induction hx with
 | p hp =>
   intro y hle
   cases hle with
   | p hp' => exact .p (hp'.sound (hp.later hL))
   | und => exact .und _
 | und v =>
   intro y hle
   cases hle with
   | und => exact .und _
 | ptr hb =>
   intro y hle
   cases hle with
   | und => exact .und _
   | ptr hk => exact .ptr (hkp _ hk _ hb)
   | fptr hf hn hi =>
     rename_i b wd i j c o s rows row
     obtain ⟨h1, h2⟩ := hr.row hb hn hi
     have := RP_irow_mk (w := w) (M := ι2.M) (row := row) (c := c) (off := o + i * wd) (fun j x hx => by
      obtain ⟨h3, v, h4, h5⟩ := h2 j x hx
      exact ⟨h3, v, by rw [← h4], h5.later hL⟩) (hfz _ hf _ _ _ hb) (hr.lt ⟨b, o, s, hb⟩) j
     rw [Nat.add_assoc] at this
     exact .p this
   | fmx hf hn =>
     rename_i b wd j c o s row
     have h0 := hr.blk b
     rw [hn, hb] at h0
     obtain ⟨c', o', s', cs, ty, fz', he, h1, _, _, _, h4⟩ := h0
     cases he
     have := RP_irow_mk (w := w) (M := ι2.M) (row := row) (c := c) (off := o) (fun j x hx => by
      obtain ⟨v, v1, v2, v3⟩ := h4 j (.p x) (by rw [List.getElem?_map, hx]; rfl)
      have hp := RA_p v3
      refine ⟨hp.one_of v2, v, ?_, hp.later hL⟩
      simp [World.cell?, h1, v1]) (hfz _ hf _ _ _ hb) (hr.lt ⟨b, o, s, hb⟩) j
     refine .p ?_
     have e : o + (0 * wd + j) = o + j := by omega
     rw [e]
     exact this
   | fax hf hn =>
     rename_i b wd j c o s n arr row
     have h0 := hr.blk b
     rw [hn, hb] at h0
     obtain ⟨_, c', o', s', cs, ty, fz', he, h1, _, _, _, h4⟩ := h0
     cases he
     have := RP_irow_mk (w := w) (M := ι2.M) (row := arr ++ row) (c := c) (off := o) (fun j x hx => by
      obtain ⟨v, v1, v2, v3⟩ := h4 j (.p x) (by rw [← List.map_append, List.getElem?_map, hx]; rfl)
      have hp := RA_p v3
      refine ⟨hp.one_of v2, v, ?_, hp.later hL⟩
      simp [World.cell?, h1, v1]) (hfz _ hf _ _ _ hb) (hr.lt ⟨b, o, s, hb⟩) j
     refine .p ?_
     have e : o + (0 * wd + j) = o + j := by omega
     rw [e]
     exact this
 | sl hb hl hcap hs =>
   intro y hle
   rename_i b wd i len c o s cc cap
   cases hle with
   | und => exact .und _
   | sl hk hc => exact .sl (hkp _ hk _ hb) hl (fun k hk => hcap k (by rcases hc with rfl | rfl; cases hk; exact hk)) hs
   | fsl hf hn hrs hlen hp =>
     rename_i rows rs y
     refine .p (hp.sound ?_)
     rw [dropN_eq] at hrs
     rw [← hlen]
     refine RP_isl_mk (ad := ⟨c, o + i * wd, none⟩) rfl (hfz _ hf _ _ _ hb) (hr.lt ⟨b, o, s, hb⟩) (by omega) (by simp) fun n row hi => ?_
     have hi' : rows[i + n]? = some row := by
      have : ((rows.drop i).take len)[n]? = some row := by rw [hrs]; exact hi
      rw [List.getElem?_take] at this
      split at this
      ·rwa [List.getElem?_drop] at this
      ·cases this
     obtain ⟨h1, h2⟩ := hr.row hb hn hi'
     refine ⟨h1, fun j x hx => ?_⟩
     obtain ⟨h3, v, h4, h5⟩ := h2 j x hx
     exact ⟨h3, v, by rw [← h4]; congr 2; simp [Nat.add_mul, Nat.add_assoc], h5.later hL⟩
 | slz hcap =>
   intro y hle
   cases hle with
   | und => exact .und _
   | sl hk hc => exact .slz (fun k hk => hcap k (by rcases hc with rfl | rfl; cases hk; exact hk))
   | fsl hf hn hrs hlen hp =>
     rename_i rows rs y
     have e : rs = [] := List.eq_nil_of_length_eq_zero hlen
     subst e
     exact .p (hp.sound (.nil (by simp)))
 | csl hb hl =>
   intro y hle
   cases hle with
   | und => exact .und _
   | csl hk => exact .csl (hkp _ hk _ hb) hl
 | cslz =>
   intro y hle
   cases hle with
   | und => exact .und _
   | csl hk => exact .cslz
 | mpr hb =>
   intro y hle
   cases hle with
   | und => exact .und _
   | mpr hk => exact .mpr (hkp _ hk _ hb)
 | agg hl hone hx ih =>
   intro y hle
   cases hle with
   | und => exact .und _
   | agg hK =>
     obtain ⟨e, g⟩ := hK.get
     refine .agg (by rw [hl, e]) (fun i y hy => ?_) (fun i y hy => ?_)
     all_goals obtain ⟨x0, g0, g1⟩ := g i y hy
     ·exact hone i x0 g0
     ·exact ih i x0 g0 g1
   | aggp hK =>
     obtain ⟨e, g⟩ := hK.get
     rename_i cells cs ys
     have key : ∀ (i : Nat) y, ys[i]? = some y → oneC (cs.getD i undef) = true ∧ RP w ι2.M y (cs.getD i undef) := fun i y hy => by
      obtain ⟨x0, g0, g1⟩ := g i (.p y) (by rw [List.getElem?_map, hy]; rfl)
      exact And.intro (hone i x0 g0) (RA_p (ih i x0 g0 g1))
     exact .p (.agg (by rw [hl, e]; simp) (fun i y hy => (key i y hy).2.one_of (key i y hy).1) (fun i y hy => (key i y hy).2))
 | tup hl hx ih =>
   intro y hle
   cases hle with
   | und => exact .und _
   | tup hK =>
     obtain ⟨e, g⟩ := hK.get
     refine .tup (by rw [hl, e]) (fun i y hy => ?_)
     obtain ⟨x0, g0, g1⟩ := g i y hy
     exact ih i x0 g0 g1
 | fn h1 h2 h3 h4 ih3 ih4 =>
   intro y hle
   cases hle with
   | und => exact .und _
   | fn ha hc =>
     obtain ⟨e1, g1⟩ := ha.get
     obtain ⟨e2, g2⟩ := hc.get
     refine .fn (by rw [h1, e1]) (by rw [h2, e2]) (fun i y hy => ?_) (fun i y hy => ?_)
     ·obtain ⟨x0, q0, q1⟩ := g1 i y hy; exact ih3 i x0 q0 q1
     ·obtain ⟨x0, q0, q1⟩ := g2 i y hy; exact ih4 i x0 q0 q1
   | fnp ha hc =>
     obtain ⟨e1, g1⟩ := ha.get
     obtain ⟨e2, g2⟩ := hc.get
     refine .p (.fn (by rw [h1, e1]; simp) (by rw [h2, e2]; simp) (fun i y hy => ?_) (fun i y hy => ?_))
     ·obtain ⟨x0, q0, q1⟩ := g1 i (.p y) (by rw [List.getElem?_map, hy]; rfl); exact RA_p (ih3 i x0 q0 q1)
     ·obtain ⟨x0, q0, q1⟩ := g2 i (.p y) (by rw [List.getElem?_map, hy]; rfl); exact RA_p (ih4 i x0 q0 q1)
 | ifc hx ih =>
   intro y hle
   cases hle with
   | und => exact .und _
   | ifc hK => exact .ifc (ih hK)
   | ifcp hK => exact .p (.ifc (RA_p (ih hK)))
end
end Hk
namespace Hk
open Go
set_option linter.unusedVariables false
set_option linter.unusedSimpArgs false
def RAL (w : World) (ι : Inj) (args : List AV) (vs : Array Value) : Prop := vs.size = args.length ∧ ∀ (i : Nat) x, args[i]? = some x → RA w ι x (vs.getD i undef)
def Fn (P : Program) : FC := fun f args H mv Post =>
 (∃ fn, P.funcs[f]? = some fn ∧ fn.name ≠ "runtime.NumGoroutine" ∧ fn.body.isSome = true) ∧
 ∀ (w : World) (ι : Inj) (vs : Array Value), ¬ ι.G → (∀ c, ι.X c → c < w.heap.size) → HRel ι H w → RAL w ι args vs →
  Calls P f vs w fun e w' => ∃ r v ι' H', e = .returned v ∧ Post r H' ∧ H.length ≤ H'.length ∧ HRel ι' H' w' ∧ RA w' ι' r v ∧ (ι'.X = ι.X ∧ ¬ ι'.G) ∧
   (∀ c (o : Obj), ¬ ι.I c → w.heap[c]? = some o → w'.heap[c]? = some o) ∧ w.heap.size ≤ w'.heap.size ∧ (∀ c, ι'.I c → ι.I c ∨ w.heap.size ≤ c) ∧
   (w'.os = w.os ∧ w'.output = w.output) ∧ ∀ b, b < H.length → memN mv b = false → ι' b = ι b
def RPL (w : World) (M : Nat → Prop) (xs : List PV) (vs : Array Value) : Prop := vs.size = xs.length ∧ ∀ (i : Nat) x, xs[i]? = some x → RP w M x (vs.getD i undef)
def YieldSpec (P : Program) (X0 : Nat → Prop) (J : Jn) (l : Nat) : Prop :=
 ∀ (y : List PV) (r : List (List PV)) (w : World) (T S X : Nat → Prop) (vs : Array Value), J (some (y :: r)) w T S → (∀ c, X0 c → X c) → (∀ c, S c → X c) → RPL w (fun c => T c ∨ X c) y vs →
  YieldAt Fence.wide 0 P l vs w fun e w' => ∃ S', Chg S w w' S' ∧ ((e = .returned (.bool true) ∧ J (some r) w' T S') ∨ (e = .returned (.bool false) ∧ J none w' T S'))
def Gives (P : Program) (g : Nat) (caps : List PV) (en : Bool) (ys : List (List PV)) : Prop :=
 (∃ fn, P.funcs[g]? = some fn ∧ fn.name ≠ "runtime.NumGoroutine" ∧ fn.body.isSome = true) ∧
 ∀ (l : Nat) (w : World) (X S : Nat → Prop) (J : Jn) (vs : Array Value), (∀ c, S c → X c) → (∀ c, X c → c < w.heap.size) → J.stable → (en = true → ∀ w T S, ¬ J (some []) w T S) → YieldSpec P X J l → Glb w X → J (some ys) w (fun _ => False) S → RPL w X caps vs →
  Calls P g (#[.func (.yield l) #[] #[]] ++ vs) w fun e w' => (∃ v, e = .returned v) ∧ ∃ S', Chg S w w' S' ∧ (J (some []) w' (fun _ => False) S' ∨ J none w' (fun _ => False) S')
theorem memN_iff {l : List Nat} {n : Nat} : memN l n = true ↔ n ∈ l := by
 induction l with
 | nil => simp [memN]
 | cons x r ih => simp [memN, ih]; constructor <;> rintro (h | h) <;> simp_all
theorem memN_false {l : List Nat} {n : Nat} : memN l n = false ↔ n ∉ l := by
 rw [← memN_iff]; simp
theorem distinctN_nodup {l : List Nat} (h : distinctN l = true) : l.Nodup := by
 induction l with
 | nil => simp
 | cons x r ih =>
   simp only [distinctN, Bool.and_eq_true, Bool.not_eq_true'] at h
   exact List.nodup_cons.2 ⟨memN_false.1 h.1, ih h.2⟩
theorem disjN_spec {l m : List Nat} (h : disjN l m = true) : ∀ x ∈ m, x ∉ l := by
 induction m with
 | nil => simp
 | cons y r ih =>
   simp only [disjN, Bool.and_eq_true, Bool.not_eq_true'] at h
   intro x hx
   rcases List.mem_cons.1 hx with rfl | hx
   ·exact memN_false.1 h.1
   ·exact ih h.2 x hx
theorem liveIds_spec {h : List Blk} {l : List Nat} (hl : liveIds h l = true) : ∀ b ∈ l, nth .dead h b ≠ .dead := by
 induction l with
 | nil => simp
 | cons y r ih =>
   simp only [liveIds, Bool.and_eq_true] at hl
   intro x hx
   rcases List.mem_cons.1 hx with rfl | hx
   ·intro e; rw [e] at hl; simp at hl
   ·exact ih hl.2 x hx
theorem liveIds_gh {h : List Blk} {l : List Nat} (hl : liveIds h l = true) : ∀ b ∈ l, ∀ n r, nth .dead h b ≠ .gh n r := by
 induction l with
 | nil => simp
 | cons y r ih =>
   simp only [liveIds, Bool.and_eq_true] at hl
   intro x hx
   rcases List.mem_cons.1 hx with rfl | hx
   ·intro n q e; rw [e] at hl; simp at hl
   ·exact ih hl.2 x hx
theorem boundedN_spec {n : Nat} {l : List Nat} (h : boundedN n l = true) : ∀ b ∈ l, b < n := by
 induction l with
 | nil => simp
 | cons y r ih =>
   simp only [boundedN, Bool.and_eq_true, Nat.blt_eq] at h
   intro x hx
   rcases List.mem_cons.1 hx with rfl | hx
   ·exact h.1
   ·exact ih h.2 x hx
theorem allFree_spec {fx : Nat → Bool} {l : List Nat} (h : allFree fx l = true) : ∀ b ∈ l, fx b = false := by
 induction l with
 | nil => simp
 | cons y r ih =>
   simp only [allFree, Bool.and_eq_true, Bool.not_eq_true'] at h
   intro x hx
   rcases List.mem_cons.1 hx with rfl | hx
   ·exact h.1
   ·exact ih h.2 x hx
theorem renB_lt {ids : List Nat} {n b : Nat} (h : b < ids.length) : renB ids n b = nth 0 ids b := by
 induction ids generalizing b with
 | nil => simp at h
 | cons x r ih => cases b with
   | zero => rfl
   | succ b => simp [renB, nth]; exact ih (by simpa using h)
theorem renB_ge {ids : List Nat} {n b : Nat} (h : ids.length ≤ b) : renB ids n b = n + (b - ids.length) := by
 induction ids generalizing b with
 | nil => rfl
 | cons x r ih => cases b with
   | zero => simp at h
   | succ b => simp [renB]; exact ih (by simpa using h)
theorem nth_mem {ids : List Nat} {b : Nat} (h : b < ids.length) : nth 0 ids b ∈ ids := by
 rw [nth_eq, List.getElem?_eq_getElem h]; exact List.getElem_mem h
def idxN : List Nat → Nat → Nat
 | [], _ => 0
 | x :: r, n => if x = n then 0 else idxN r n + 1
theorem idxN_spec {l : List Nat} {n : Nat} (h : n ∈ l) : idxN l n < l.length ∧ nth 0 l (idxN l n) = n := by
 induction l with
 | nil => cases h
 | cons x r ih =>
   unfold idxN
   by_cases e : x = n
   ·simp [e, nth]
   ·rw [if_neg e]
    have := ih ((List.mem_cons.1 h).resolve_left (Ne.symm e))
    simp [nth, this]
theorem idxN_nth {l : List Nat} (hd : l.Nodup) {k : Nat} (h : k < l.length) : idxN l (nth 0 l k) = k := by
 induction l generalizing k with
 | nil => simp at h
 | cons x r ih =>
   obtain ⟨h1, h2⟩ := List.nodup_cons.1 hd
   cases k with
   | zero => simp [nth, idxN]
   | succ k =>
     have hk : k < r.length := by simpa using h
     have e0 : nth 0 (x :: r) (k + 1) = nth 0 r k := rfl
     rw [e0]
     unfold idxN
     rw [if_neg, ih h2 hk]
     intro e
     exact h1 (e ▸ nth_mem hk)
theorem renL_get (ids : List Nat) (n : Nat) (l : List AV) (i : Nat) : (AV.renL ids n l)[i]? = (l[i]?).map (AV.ren ids n) := by
 induction l generalizing i with
 | nil => simp [AV.renL]
 | cons x r ih => cases i <;> simp [AV.renL, ih]
theorem renL_ps (ids : List Nat) (n : Nat) : ∀ l : List PV, AV.renL ids n (l.map .p) = l.map .p
 | [] => rfl
 | x :: r => by simp [AV.renL, AV.ren, renL_ps ids n r]
theorem renL_app (ids : List Nat) (n : Nat) (l m : List AV) : AV.renL ids n (l ++ m) = AV.renL ids n l ++ AV.renL ids n m := by
 induction l with
 | nil => rfl
 | cons x r ih => simp [AV.renL, ih]
theorem renL_len (ids : List Nat) (n : Nat) (l : List AV) : (AV.renL ids n l).length = l.length := by
 induction l with
 | nil => rfl
 | cons x r ih => simp [AV.renL, ih]
theorem renH_nth (ids : List Nat) (n : Nat) (h : List Blk) (b : Nat) : nth .dead (renH ids n h) b = (nth .dead h b).ren ids n := by
 induction h generalizing b with
 | nil => rfl
 | cons x r ih => cases b with
   | zero => rfl
   | succ b => simp [renH, nth, ih]
theorem renH_len (ids : List Nat) (n : Nat) (h : List Blk) : (renH ids n h).length = h.length := by
 induction h with
 | nil => rfl
 | cons x r ih => simp [renH, ih]
theorem getIds_nth (h : List Blk) (ids : List Nat) (b : Nat) (hb : b < ids.length) : nth .dead (getIds h ids) b = nth .dead h (nth 0 ids b) := by
 induction ids generalizing b with
 | nil => simp at hb
 | cons x r ih => cases b with
   | zero => rfl
   | succ b => simp [getIds, nth]; exact ih b (by simpa using hb)
theorem backH_len (h : List Blk) : ∀ (ids : List Nat) (new : List Blk), ids.length ≤ new.length → (backH h ids new).length = h.length + (new.length - ids.length) := by
 intro ids
 induction ids generalizing h with
 | nil => intro new _; simp [backH]
 | cons i r ih =>
   intro new hl
   cases new with
   | nil => simp at hl
   | cons x s =>
     simp only [backH]
     rw [ih _ s (by simpa using hl)]
     simp [setNth_eq]
theorem backH_nth (h : List Blk) : ∀ (ids : List Nat) (new : List Blk) (b : Nat), ids.Nodup → (∀ i ∈ ids, i < h.length) → ids.length ≤ new.length →
 nth .dead (backH h ids new) b = if b ∈ ids then nth .dead new (idxN ids b) else if h.length ≤ b then nth .dead new (ids.length + (b - h.length)) else nth .dead h b := by
 intro ids
 induction ids generalizing h with
 | nil =>
   intro new b _ _ _
   simp only [backH, List.not_mem_nil, if_false, List.length_nil, Nat.zero_add]
   rw [nth_eq, nth_eq, nth_eq, List.getElem?_append]
   by_cases hb : b < h.length
   ·rw [if_pos hb, if_neg (by omega)]
   ·rw [if_neg hb, if_pos (by omega)]
 | cons i r ih =>
   intro new b hd hlt hl
   obtain ⟨h1, h2⟩ := List.nodup_cons.1 hd
   cases new with
   | nil => simp at hl
   | cons x s =>
     have hi : i < h.length := hlt i (by simp)
     simp only [backH]
     rw [ih (setNth h i x) s b h2 (fun j hj => by rw [setNth_eq, List.length_set]; exact hlt j (by simp [hj])) (by simpa using hl)]
     have hlen : (setNth h i x).length = h.length := by rw [setNth_eq, List.length_set]
     rw [hlen]
     by_cases e : b = i
     ·subst e
      rw [if_neg h1, if_neg (by omega), if_pos (by simp), nth_setNth _ _ _ _ _ hi, if_pos rfl]
      simp [idxN, nth]
     ·by_cases hm : b ∈ r
      ·rw [if_pos hm, if_pos (by simp [hm])]
       simp [idxN, Ne.symm e, nth]
      ·have hm' : ¬ b ∈ i :: r := by simp [e, hm]
       simp only [if_neg hm, if_neg hm']
       by_cases hge : h.length ≤ b
       ·rw [if_pos hge, if_pos hge]
        simp only [List.length_cons]
        rw [show r.length + 1 + (b - h.length) = (r.length + (b - h.length)) + 1 by omega]
        rfl
       ·rw [if_neg hge, if_neg hge, nth_setNth _ _ _ _ _ hi, if_neg e]
theorem RA.unren {w : World} {ι ιc : Inj} {ids : List Nat} {n : Nat} (hm : ∀ b p, ι (renB ids n b) = some p → ιc b = some p) (hM : ∀ c, ιc.M c → ι.M c) :
 ∀ (x : AV) {v : Value}, RA w ι (AV.ren ids n x) v → RA w ιc x v := by
 have hL : Later ι.M w w ιc.M := ⟨fun _ _ _ h => h, fun c hc => .inl (hM c hc), Nat.le_refl _⟩
 have main : ∀ (y : AV) {v : Value}, RA w ι y v → ∀ x, y = AV.ren ids n x → RA w ιc x v := by
  intro y v h
  induction h with
  | p hp => intro x e; cases x <;> simp only [AV.ren] at e <;> first | (cases e; exact .p (hp.later hL)) | (cases e)
  | und v => intro x e; cases x <;> simp only [AV.ren] at e <;> first | exact .und _ | (cases e)
  | ptr hb => intro x e; cases x <;> simp only [AV.ren] at e <;> first | (cases e; exact .ptr (hm _ _ hb)) | (cases e)
  | sl hb hl hcap hs => intro x e; cases x <;> simp only [AV.ren] at e <;> first | (cases e; exact .sl (hm _ _ hb) hl hcap hs) | (cases e)
  | slz hcap => intro x e; cases x <;> simp only [AV.ren] at e <;> first | (cases e; exact .slz hcap) | (cases e)
  | csl hb hl => intro x e; cases x <;> simp only [AV.ren] at e <;> first | (cases e; exact .csl (hm _ _ hb) hl) | (cases e)
  | cslz => intro x e; cases x <;> simp only [AV.ren] at e <;> first | (cases e; exact .cslz) | (cases e)
  | mpr hb => intro x e; cases x <;> simp only [AV.ren] at e <;> first | (cases e; exact .mpr (hm _ _ hb)) | (cases e)
  | agg hl hone h ih =>
    intro x e
    cases x <;> simp only [AV.ren] at e <;> first | (cases e; done) | skip
    rename_i l
    cases e
    refine .agg (by rw [hl, renL_len]) (fun i y hy => hone i (AV.ren ids n y) (by rw [renL_get, hy]; rfl)) (fun i y hy => ih i (AV.ren ids n y) (by rw [renL_get, hy]; rfl) y rfl)
  | tup hl h ih =>
    intro x e
    cases x <;> simp only [AV.ren] at e <;> first | (cases e; done) | skip
    rename_i l
    cases e
    refine .tup (by rw [hl, renL_len]) (fun i y hy => ih i (AV.ren ids n y) (by rw [renL_get, hy]; rfl) y rfl)
  | fn h1 h2 h3 h4 ih3 ih4 =>
    intro x e
    cases x <;> simp only [AV.ren] at e <;> first | (cases e; done) | skip
    cases e
    refine .fn (by rw [h1, renL_len]) (by rw [h2, renL_len]) (fun i y hy => ih3 i (AV.ren ids n y) (by rw [renL_get, hy]; rfl) y rfl) (fun i y hy => ih4 i (AV.ren ids n y) (by rw [renL_get, hy]; rfl) y rfl)
  | ifc h ih =>
    intro x e
    cases x <;> simp only [AV.ren] at e <;> first | (cases e; done) | skip
    cases e
    exact .ifc (ih _ rfl)
 exact fun x v h => main _ h x rfl
theorem RA.ren {w : World} {ι ιc : Inj} {ids : List Nat} {n : Nat} (hm : ∀ b p, ιc b = some p → ι (renB ids n b) = some p) (hM : ∀ c, ι.M c → ιc.M c) {x : AV} {v : Value} (h : RA w ιc x v) :
 RA w ι (AV.ren ids n x) v := by
 have hL : Later ιc.M w w ι.M := ⟨fun _ _ _ h => h, fun c hc => .inl (hM c hc), Nat.le_refl _⟩
 induction h with
 | p hp => exact .p (hp.later hL)
 | und v => exact .und v
 | ptr hb => exact .ptr (hm _ _ hb)
 | sl hb hl hcap hs => exact .sl (hm _ _ hb) hl hcap hs
 | slz hcap => exact .slz hcap
 | csl hb hl => exact .csl (hm _ _ hb) hl
 | cslz => exact .cslz
 | mpr hb => exact .mpr (hm _ _ hb)
 | agg hl hone h ih =>
   refine .agg (by rw [hl, renL_len]) (fun i y hy => ?_) (fun i y hy => ?_)
   all_goals
    rw [renL_get] at hy
    obtain ⟨z, hz, rfl⟩ := Option.map_eq_some_iff.1 hy
   ·exact hone i z hz
   ·exact ih i z hz
 | tup hl h ih =>
   refine .tup (by rw [hl, renL_len]) (fun i y hy => ?_)
   rw [renL_get] at hy
   obtain ⟨z, hz, rfl⟩ := Option.map_eq_some_iff.1 hy
   exact ih i z hz
 | fn h1 h2 h3 h4 ih3 ih4 =>
   refine .fn (by rw [h1, renL_len]) (by rw [h2, renL_len]) (fun i y hy => ?_) (fun i y hy => ?_)
   all_goals
    rw [renL_get] at hy
    obtain ⟨z, hz, rfl⟩ := Option.map_eq_some_iff.1 hy
   ·exact ih3 i z hz
   ·exact ih4 i z hz
 | ifc h ih => exact .ifc ih
theorem flatPL_mem {l : List PV} (h : flatPL l = true) : ∀ x ∈ l, flatP x = true := by
 induction l with
 | nil => simp
 | cons y r ih =>
   simp only [flatPL, Bool.and_eq_true] at h
   intro x hx
   rcases List.mem_cons.1 hx with rfl | hx
   ·exact h.1
   ·exact ih h.2 x hx
theorem flatVL_mem {l : List AV} (h : flatVL l = true) : ∀ x ∈ l, flatV x = true := by
 induction l with
 | nil => simp
 | cons y r ih =>
   simp only [flatVL, Bool.and_eq_true] at h
   intro x hx
   rcases List.mem_cons.1 hx with rfl | hx
   ·exact h.1
   ·exact ih h.2 x hx
theorem RP.flat {w w' : World} {M M' : Nat → Prop} {x : PV} {v : Value} (h : RP w M x v) : flatP x = true → RP w' M' x v := by
 induction h with
 | int k n => intro _; exact .int k n
 | b x => intro _; exact .b x
 | str l => intro _; exact .str l
 | lit v h => intro _; exact .lit v h
 | nil h => intro hf; simp [flatP] at hf
 | isl => intro hf; simp [flatP] at hf
 | irow => intro hf; simp [flatP] at hf
 | agg hl hone h ih =>
   intro hf
   simp only [flatP] at hf
   exact .agg hl hone fun i x hx => ih i x hx (flatPL_mem hf _ (List.mem_of_getElem? hx))
 | fn h1 h2 h3 h4 ih3 ih4 =>
   intro hf
   simp only [flatP, Bool.and_eq_true] at hf
   exact .fn h1 h2 (fun i x hx => ih3 i x hx (flatPL_mem hf.1 _ (List.mem_of_getElem? hx))) (fun i x hx => ih4 i x hx (flatPL_mem hf.2 _ (List.mem_of_getElem? hx)))
 | ifc h ih => intro hf; simp only [flatP] at hf; exact .ifc (ih hf)
theorem RA.flat {w w' : World} {ι ι' : Inj} {x : AV} {v : Value} (h : RA w ι x v) : flatV x = true → ∀ ids n, RA w' ι' (AV.ren ids n x) v := by
 induction h with
 | p h => intro hf ids n; exact .p (h.flat hf)
 | tup hl h ih =>
   intro hf ids n
   simp only [flatV] at hf
   refine .tup (by rw [hl, renL_len]) (fun i y hy => ?_)
   rw [renL_get] at hy
   obtain ⟨z, hz, rfl⟩ := Option.map_eq_some_iff.1 hy
   exact ih i z hz (flatVL_mem hf _ (List.mem_of_getElem? hz)) ids n
 | _ => intro hf; simp [flatV] at hf
end Hk
namespace Hk
open Go
set_option linter.unusedVariables false
set_option linter.unusedSimpArgs false
def AV.kills : List Nat → AV → AV
 | [], x => x
 | b :: r, x => AV.kills r (x.kill b)
def AV.killsL : List Nat → List AV → List AV
 | [], x => x
 | b :: r, x => AV.killsL r (AV.killL b x)
def Blk.kills : List Nat → Blk → Blk
 | [], x => x
 | b :: r, x => Blk.kills r (x.kill b)
theorem kills_append (k1 k2 : List Nat) (x : AV) : AV.kills (k1 ++ k2) x = AV.kills k2 (AV.kills k1 x) := by
 induction k1 generalizing x with
 | nil => rfl
 | cons b r ih => exact ih _
theorem bkills_append (k1 k2 : List Nat) (x : Blk) : Blk.kills (k1 ++ k2) x = Blk.kills k2 (Blk.kills k1 x) := by
 induction k1 generalizing x with
 | nil => rfl
 | cons b r ih => exact ih _
theorem killsL_get (ks : List Nat) (l : List AV) (i : Nat) : (AV.killsL ks l)[i]? = (l[i]?).map (AV.kills ks) := by
 induction ks generalizing l with
 | nil => simp [AV.killsL, AV.kills]
 | cons b r ih => simp only [AV.killsL, ih, killL_get, Option.map_map]; rfl
theorem killsL_len (ks : List Nat) (l : List AV) : (AV.killsL ks l).length = l.length := by
 induction ks generalizing l with
 | nil => rfl
 | cons b r ih => simp [AV.killsL, ih, killL_len]
theorem kills_undef (ks : List Nat) : AV.kills ks .undef = .undef := by
 induction ks with
 | nil => rfl
 | cons b r ih => exact ih
theorem kills_p (ks : List Nat) (x : PV) : AV.kills ks (.p x) = .p x := by
 induction ks with
 | nil => rfl
 | cons b r ih => exact ih
theorem kills_agg (ks : List Nat) (l : List AV) : AV.kills ks (.agg l) = .agg (AV.killsL ks l) := by
 induction ks generalizing l with
 | nil => rfl
 | cons b r ih => exact ih _
theorem kills_tup (ks : List Nat) (l : List AV) : AV.kills ks (.tup l) = .tup (AV.killsL ks l) := by
 induction ks generalizing l with
 | nil => rfl
 | cons b r ih => exact ih _
theorem kills_fn (ks : List Nat) (f : Nat) (x y : List AV) : AV.kills ks (.fn f x y) = .fn f (AV.killsL ks x) (AV.killsL ks y) := by
 induction ks generalizing x y with
 | nil => rfl
 | cons b r ih => exact ih _ _
theorem kills_ifc (ks : List Nat) (t : TypeId) (x : AV) : AV.kills ks (.ifc t x) = .ifc t (AV.kills ks x) := by
 induction ks generalizing x with
 | nil => rfl
 | cons b r ih => exact ih _
theorem kills_ptr (ks : List Nat) (b w i j : Nat) : AV.kills ks (.ptr b w i j) = if b ∈ ks then .undef else .ptr b w i j := by
 induction ks with
 | nil => simp [AV.kills]
 | cons c r ih =>
   by_cases e : b = c
   ·subst e; simp [AV.kills, AV.kill, kills_undef]
   ·simp [AV.kills, AV.kill, beqF e, ih, e]
theorem kills_sl (ks : List Nat) (b w i l : Nat) (c : Option Nat) : AV.kills ks (.sl b w i l c) = if b ∈ ks then .undef else .sl b w i l c := by
 induction ks with
 | nil => simp [AV.kills]
 | cons c' r ih =>
   by_cases e : b = c'
   ·subst e; simp [AV.kills, AV.kill, kills_undef]
   ·simp [AV.kills, AV.kill, beqF e, ih, e]
theorem kills_csl (ks : List Nat) (b w i j e l : Nat) : AV.kills ks (.csl b w i j e l) = if b ∈ ks then .undef else .csl b w i j e l := by
 induction ks with
 | nil => simp [AV.kills]
 | cons c' r ih =>
   by_cases e' : b = c'
   ·subst e'; simp [AV.kills, AV.kill, kills_undef]
   ·simp [AV.kills, AV.kill, beqF e', ih, e']
theorem kills_mpr (ks : List Nat) (b : Nat) : AV.kills ks (.mpr b) = if b ∈ ks then .undef else .mpr b := by
 induction ks with
 | nil => simp [AV.kills]
 | cons c' r ih =>
   by_cases e' : b = c'
   ·subst e'; simp [AV.kills, AV.kill, kills_undef]
   ·simp [AV.kills, AV.kill, beqF e', ih, e']
theorem RA.kills {w w' : World} {ι ι' : Inj} {ks : List Nat} (hL : Later ι.M w w' ι'.M) (hι : ∀ b, b ∉ ks → ∀ p, ι b = some p → ι' b = some p) {x : AV} {v : Value} (h : RA w ι x v) :
 RA w' ι' (x.kills ks) v := by
 induction h with
 | p h => rw [kills_p]; exact .p (h.later hL)
 | und v => rw [kills_undef]; exact .und v
 | ptr h => rw [kills_ptr]; split; exact .und _; exact .ptr (hι _ (by assumption) _ h)
 | sl h hl hcap hs => rw [kills_sl]; split; exact .und _; exact .sl (hι _ (by assumption) _ h) hl hcap hs
 | slz hcap => rw [kills_sl]; split; exact .und _; exact .slz hcap
 | csl h hl => rw [kills_csl]; split; exact .und _; exact .csl (hι _ (by assumption) _ h) hl
 | cslz => rw [kills_csl]; split; exact .und _; exact .cslz
 | mpr h => rw [kills_mpr]; split; exact .und _; exact .mpr (hι _ (by assumption) _ h)
 | agg hl hone h ih =>
   rw [kills_agg]
   refine .agg (by rw [hl, killsL_len]) (fun i y hy => ?_) (fun i y hy => ?_)
   all_goals rw [killsL_get] at hy; obtain ⟨z, hz, rfl⟩ := Option.map_eq_some_iff.1 hy
   ·exact hone i z hz
   ·exact ih i z hz
 | tup hl h ih =>
   rw [kills_tup]
   refine .tup (by rw [hl, killsL_len]) (fun i y hy => ?_)
   rw [killsL_get] at hy; obtain ⟨z, hz, rfl⟩ := Option.map_eq_some_iff.1 hy
   exact ih i z hz
 | fn h1 h2 h3 h4 ih3 ih4 =>
   rw [kills_fn]
   refine .fn (by rw [h1, killsL_len]) (by rw [h2, killsL_len]) (fun i y hy => ?_) (fun i y hy => ?_)
   all_goals rw [killsL_get] at hy; obtain ⟨z, hz, rfl⟩ := Option.map_eq_some_iff.1 hy
   ·exact ih3 i z hz
   ·exact ih4 i z hz
 | ifc h ih => rw [kills_ifc]; exact .ifc ih
theorem bkills_dead (ks : List Nat) : Blk.kills ks .dead = .dead := by
 induction ks with
 | nil => rfl
 | cons b r ih => exact ih
theorem bkills_pr (ks : List Nat) (wd : Nat) (rows : List (List PV)) : Blk.kills ks (.pr wd rows) = .pr wd rows := by
 induction ks with
 | nil => rfl
 | cons b r ih => exact ih
theorem bkills_mx (ks : List Nat) (l : List AV) : Blk.kills ks (.mx l) = .mx (AV.killsL ks l) := by
 induction ks generalizing l with
 | nil => rfl
 | cons b r ih => exact ih _
theorem bkills_mp (ks : List Nat) (ag : Bool) (k : List CK) (e : List (PV × PV)) : Blk.kills ks (.mp ag k e) = .mp ag k e := by
 induction ks with
 | nil => rfl
 | cons b r ih => exact ih
theorem bkills_gh (ks : List Nat) (l : Nat) (r : Option (List (List PV))) : Blk.kills ks (.gh l r) = .gh l r := by
 induction ks with
 | nil => rfl
 | cons b r ih => exact ih
theorem bkills_ax (ks : List Nat) (n : Nat) (a : List PV) (l : List AV) : Blk.kills ks (.ax n a l) = .ax n a (AV.killsL ks l) := by
 induction ks generalizing l with
 | nil => rfl
 | cons b r ih => exact ih _
theorem killsL_app (ks : List Nat) (a : List PV) (l : List AV) : AV.killsL ks (a.map AV.p ++ l) = a.map AV.p ++ AV.killsL ks l := by
 induction ks generalizing l with
 | nil => rfl
 | cons b r ih =>
   show AV.killsL r (AV.killL b (a.map AV.p ++ l)) = _
   rw [killL_app, killL_ps]; exact ih _
theorem bkills_of_gh {ks : List Nat} {x : Blk} {l : Nat} {r : Option (List (List PV))} (h : x.kills ks = .gh l r) : x = .gh l r := by
 cases x with
 | dead => rw [bkills_dead] at h; cases h
 | mx c => rw [bkills_mx] at h; cases h
 | pr w r => rw [bkills_pr] at h; cases h
 | mp _ _ _ => rw [bkills_mp] at h; cases h
 | gh _ _ => rw [bkills_gh] at h; exact h
 | ax _ _ _ => rw [bkills_ax] at h; cases h
theorem RB.kills {w w' : World} {ι ι' : Inj} {ks : List Nat} {p : Option (Nat × Nat × Nat)} (hL : Later ι.M w w' ι'.M) (hG : ι.G → ι'.G) (hι : ∀ b, b ∉ ks → ∀ p, ι b = some p → ι' b = some p)
 (hk : ∀ c o s, p = some (c, o, s) → w'.heap[c]? = w.heap[c]?) {x : Blk} (h : RB w ι p x) : RB w' ι' p (x.kills ks) := by
 cases x with
 | dead => rw [bkills_dead]; exact h
 | mx cells =>
   rw [bkills_mx]
   obtain ⟨c, o, s, cs, ty, fz, hp, h1, hf, h2, h3, h4⟩ := h
   refine ⟨c, o, s, cs, ty, fz, hp, by rw [hk _ _ _ hp, h1], hf, h2, by rw [killsL_len]; exact h3, fun j x hx => ?_⟩
   rw [killsL_get] at hx; obtain ⟨y, hy, rfl⟩ := Option.map_eq_some_iff.1 hx
   obtain ⟨v, hv, ho, hr⟩ := h4 j y hy
   exact ⟨v, hv, ho, hr.kills hL hι⟩
 | pr wd rows =>
   rw [bkills_pr]
   rcases h with h | ⟨c, o, s, cs, ty, fz, hp, h1, hf, h2, h3, h4, h5⟩
   ·exact .inl h
   ·refine .inr ⟨c, o, s, cs, ty, fz, hp, by rw [hk _ _ _ hp, h1], hf, h2, h3, h4, fun i row j x hi hx => ?_⟩
    obtain ⟨ho, v, hv, hr⟩ := h5 i row j x hi hx
    exact ⟨ho, v, hv, hr.later hL⟩
 | mp ag k e =>
   rw [bkills_mp]
   obtain ⟨c, o, s, hp, h1⟩ := h
   exact ⟨c, o, s, hp, h1.later hL (hk _ _ _ hp)⟩
 | gh l r => rw [bkills_gh]; exact ⟨h.1, hG h.2⟩
 | ax n arr cells =>
   rw [bkills_ax]
   obtain ⟨hn, c, o, s, cs, ty, fz, hp, h1, hf, h2, h3, h4⟩ := h
   refine ⟨hn, c, o, s, cs, ty, fz, hp, by rw [hk _ _ _ hp, h1], hf, h2, by rw [← killsL_app, killsL_len]; exact h3, fun j x hx => ?_⟩
   rw [← killsL_app, killsL_get] at hx; obtain ⟨y, hy, rfl⟩ := Option.map_eq_some_iff.1 hx
   obtain ⟨v, hv, ho, hr⟩ := h4 j y hy
   exact ⟨v, hv, ho, hr.kills hL hι⟩
theorem killAll_lk (ks : List Nat) (st : St) (s : Nat) : lk (killAll ks st).tmps s = (lk st.tmps s).kills ks := by
 induction ks generalizing st with
 | nil => rfl
 | cons b r ih => simp only [killAll, ih, AV.kills]; rw [show (st.kill b).tmps = killT b st.tmps from rfl, lk_kill]
theorem killAll_nth (ks : List Nat) (st : St) (n : Nat) : nth .dead (killAll ks st).heap n = (nth .dead st.heap n).kills ks := by
 induction ks generalizing st with
 | nil => rfl
 | cons b r ih => simp only [killAll, ih, Blk.kills]; rw [show (st.kill b).heap = killH b st.heap from rfl, killH_nth]
theorem killAll_len (ks : List Nat) (st : St) : (killAll ks st).heap.length = st.heap.length := by
 induction ks generalizing st with
 | nil => rfl
 | cons b r ih => simp only [killAll, ih]; exact killH_len _ _
theorem dropAll_lk (fr : List Nat) (st : St) (s : Nat) : lk (dropAll fr st).tmps s = (lk st.tmps s).kills fr := by
 induction fr generalizing st with
 | nil => rfl
 | cons b r ih => simp only [dropAll, ih, AV.kills, lk_kill]
theorem dropAll_len (fr : List Nat) (st : St) : (dropAll fr st).heap.length = st.heap.length := by
 induction fr generalizing st with
 | nil => rfl
 | cons b r ih => simp only [dropAll, ih, killH_setNth_len]
theorem dropAll_nth (fr : List Nat) (st : St) (hb : ∀ b ∈ fr, b < st.heap.length) (n : Nat) : nth .dead (dropAll fr st).heap n = if n ∈ fr then .dead else (nth .dead st.heap n).kills fr := by
 induction fr generalizing st with
 | nil => simp [dropAll, Blk.kills]
 | cons b r ih =>
   simp only [dropAll]
   rw [ih _ (fun c hc => by simp only [killH_setNth_len]; exact hb c (by simp [hc]))]
   have hlt : b < (killH b st.heap).length := by rw [killH_len]; exact hb b (by simp)
   by_cases h1 : n ∈ r
   ·simp [h1]
   ·rw [if_neg h1, nth_setNth _ _ _ _ _ hlt]
    by_cases h2 : n = b
    ·simp [h2, bkills_dead]
    ·simp [h1, h2, Blk.kills, killH_nth]
section
variable {cx : Cx} {ι : Inj} {st : St} {a : Act} {w : World}
theorem run_callFunc {P : Program} {f : Nat} {vs : Array Value} (h : ∃ fn, P.funcs[f]? = some fn ∧ fn.name ≠ "runtime.NumGoroutine" ∧ fn.body.isSome = true) (w : World) :
 (callFunc f vs).run P w = .ok (.enter f vs) w := by
 obtain ⟨fn, h1, h2, h3⟩ := h
 have h4 : fn.body.isNone = false := by cases hb : fn.body <;> simp_all
 simp only [callFunc, Sem.run_bind, run_program, Result.andThen_ok, h1]
 rw [if_neg (by simpa using h2), h4]
 simp
theorem vcall_sound (hF : ∀ f args H mv Post, cx.E.F f args H mv Post → Fn cx.P f args H mv Post) (hr : Rel cx ι st a w) {o : Oper} {f : Nat} {args : List AV} {vs : Array Value}
 (hrun : (execOp a.eval o).run cx.P w = (callFunc f vs).run cx.P w) (hargs : RAL w ι args vs) (hd : ∀ t, o.dst = some t → cx.okb t = true) {q : Bool} {k : St → Prop}
 (h : vcall cx.E q f args o.dst st k) {Q : Exit → Act → World → Prop} : o.wp cx.P a w (After cx q w k) Q := by
 have h := h.1
 unfold vcall0 at h
 obtain ⟨ids, H, args', mv, Post, fr, flat, hc, ⟨hq, hflat, hfx1, hfx2, hmvb, hfrb, hlen, hdist, hdisj, hlive⟩, hH, hK, hk⟩ := h
 obtain ⟨hcallable, hfn⟩ := hF _ _ _ _ _ hc
 have hfx1 := allFree_spec hfx1
 have hfx2 := allFree_spec hfx2
 have hmvb := boundedN_spec hmvb
 have hfrb := boundedN_spec hfrb
 have hnd := distinctN_nodup hdist
 have hdisj := disjN_spec hdisj
 have hlive0 := hlive
 have hlive := liveIds_spec hlive
 have hidlt : ∀ i ∈ ids, i < st.heap.length := fun i hi => hr.mem.hr.blen (hlive i hi)
 have hbig : ∀ b, st.heap.length ≤ b → ι b = none := fun b hb => by
  cases hq : ι b with
  | none => rfl
  | some p =>
    obtain ⟨c', o', s'⟩ := p
    obtain ⟨ob, _, hdd⟩ := hr.mem.hr.size hq
    have := hr.mem.hr.blen hdd; omega
 have hflatn : flat = true → ids = [] ∧ fr = [] := fun hf => by
  rw [hf] at hflat
  cases ids <;> cases fr <;> simp_all [isNil]
 let Xc : Nat → Prop := fun c => ι.X c ∨ (flat = false ∧ ∃ b o s, b ∉ ids ∧ b ∉ fr ∧ ι b = some (c, o, s))
 let ι2 : Inj := ⟨fun b => if b ∈ ids then ι b else none, Xc, fun _ => False, [], False⟩
 have hι2 : ∀ b c o s, ι2 b = some (c, o, s) → b ∈ ids ∧ ι b = some (c, o, s) := fun b c o s hb => by
  have hb : (if b ∈ ids then ι b else none) = some (c, o, s) := hb
  split at hb
  ·exact ⟨by assumption, hb⟩
  ·cases hb
 have hM2 : ∀ c, ι2.M c → ι.M c := fun c hc => by
  rcases hc with ⟨b, o, s, hb⟩ | hX | ⟨_, b, o, s, _, _, hb⟩
  ·exact .inl ⟨b, o, s, (hι2 _ _ _ _ hb).2⟩
  ·exact .inr hX
  ·exact .inl ⟨b, o, s, hb⟩
 have hfz : ∀ b, (flat || memN fr b) = true → ∀ c o s, ι b = some (c, o, s) → ¬ ι2.M c := by
  intro b hb c o s hbi hMc
  rcases hMc with ⟨b', o', s', hb'⟩ | hX | ⟨hf, b', o', s', h1, h2, hb'⟩
  ·obtain ⟨hin, hb'⟩ := hι2 _ _ _ _ hb'
   have := hr.mem.hr.inj _ _ _ _ _ _ _ hbi hb'
   subst this
   cases hfl : flat with
   | true => obtain ⟨e, _⟩ := hflatn hfl; rw [e] at hin; cases hin
   | false =>
     rw [hfl] at hb
     exact hdisj b (memN_iff.1 (by simpa using hb)) hin
  ·exact hr.mem.hr.dis _ _ _ _ hbi hX
  ·have := hr.mem.hr.inj _ _ _ _ _ _ _ hbi hb'
   subst this
   rw [hf] at hb
   exact h2 (memN_iff.1 (by simpa using hb))
 have hkp : ∀ b, memN ids b = true → ∀ p, ι b = some p → ι2 b = some p := fun b hb p hp => by
  show (if b ∈ ids then ι b else none) = some p
  rw [if_pos (memN_iff.1 hb)]; exact hp
 let ιc : Inj := ⟨fun j => if j < ids.length then ι (nth 0 ids j) else none, Xc, fun _ => False, [], False⟩
 have hιc : ∀ j, j < ids.length → ιc j = ι (nth 0 ids j) := fun j hj => if_pos hj
 have hιc0 : ∀ j, ids.length ≤ j → ιc j = none := fun j hj => if_neg (by omega)
 have hIc : ∀ c, ιc.I c → ∃ b o s, b ∈ ids ∧ ι b = some (c, o, s) := by
  rintro c ⟨j, o, s, hj⟩
  by_cases h1 : j < ids.length
  ·rw [hιc j h1] at hj; exact ⟨_, o, s, nth_mem h1, hj⟩
  ·rw [hιc0 j (by omega)] at hj; cases hj
 have hMc2 : ∀ c, ιc.M c → ι2.M c := fun c hc => by
  rcases hc with hc | hc
  ·obtain ⟨b, o, s, hb, hbi⟩ := hIc c hc
   exact .inl ⟨b, o, s, by show (if b ∈ ids then ι b else none) = _; rw [if_pos hb]; exact hbi⟩
  ·exact .inr hc
 have hunren : ∀ b p, ι2 (renB ids st.heap.length b) = some p → ιc b = some p := fun b p hp => by
  by_cases hb : b < ids.length
  ·rw [renB_lt hb] at hp
   rw [hιc b hb]
   obtain ⟨c, o, s⟩ := p
   exact (hι2 _ _ _ _ hp).2
  ·rw [renB_ge (by omega)] at hp
   obtain ⟨c, o, s⟩ := p
   obtain ⟨hin, _⟩ := hι2 _ _ _ _ hp
   have := hidlt _ hin; omega
 have hHnth : ∀ b, b < ids.length → (nth .dead H b).ren ids st.heap.length = nth .dead st.heap (nth 0 ids b) := fun b hb => by
  rw [← renH_nth, hH, getIds_nth _ _ _ hb]
 have hunren' : ∀ b p, ι (renB ids st.heap.length b) = some p → ιc b = some p := fun b p hp => by
  by_cases hb : b < ids.length
  ·rw [renB_lt hb] at hp; rw [hιc b hb]; exact hp
  ·rw [renB_ge (by omega), hbig _ (by omega)] at hp; cases hp
 have hMc : ∀ c, ιc.M c → ι.M c := fun c hc => hM2 c (hMc2 c hc)
 have hLc : Later ι.M w w ιc.M := ⟨fun _ _ _ h => h, fun c hc => .inl (hMc c hc), Nat.le_refl _⟩
 have hHR : HRel ιc H w := by
  refine ⟨hr.mem.hr.gl.later hLc, fun b => ?_, fun b b' c o s o' s' h1 h2 => ?_, fun b c o s h1 => ?_⟩
  ·by_cases hb : b < ids.length
   ·have hrb := hr.mem.hr.blk (nth 0 ids b)
    rw [← hHnth b hb] at hrb
    rw [hιc b hb]
    cases hbk : nth .dead H b with
    | dead => rw [hbk] at hrb; exact hrb
    | mx cells =>
      rw [hbk] at hrb
      obtain ⟨c, o, s, cs, ty, fz, hp, g1, g2, g3, g4, g5⟩ := hrb
      refine ⟨c, o, s, cs, ty, fz, hp, g1, g2, g3, by rw [renL_len] at g4; exact g4, fun j x hx => ?_⟩
      obtain ⟨v, q1, q2, q3⟩ := g5 j (AV.ren ids st.heap.length x) (by rw [renL_get, hx]; rfl)
      exact ⟨v, q1, q2, RA.unren hunren' hMc x q3⟩
    | pr wd rows =>
      rw [hbk] at hrb
      rcases hrb with h0 | ⟨c, o, s, cs, ty, fz, hp, g1, g2, g3, g4, g5, g6⟩
      ·exact .inl h0
      ·refine .inr ⟨c, o, s, cs, ty, fz, hp, g1, g2, g3, g4, g5, fun i row j x hi hx => ?_⟩
       obtain ⟨q1, v, q2, q3⟩ := g6 i row j x hi hx
       exact ⟨q1, v, q2, q3.later hLc⟩
    | mp ag ks ents =>
      rw [hbk] at hrb
      obtain ⟨c, o, s, hp, g1⟩ := hrb
      exact ⟨c, o, s, hp, g1.later hLc rfl⟩
    | ax n arr cells =>
      rw [hbk] at hrb
      have er : arr.map AV.p ++ AV.renL ids st.heap.length cells = AV.renL ids st.heap.length (arr.map AV.p ++ cells) := by rw [renL_app, renL_ps]
      obtain ⟨hn, c, o, s, cs, ty, fz, hp, g1, g2, g3, g4, g5⟩ := hrb
      rw [er, renL_len] at g4
      refine ⟨hn, c, o, s, cs, ty, fz, hp, g1, g2, g3, g4, fun j x hx => ?_⟩
      obtain ⟨v, q1, q2, q3⟩ := g5 j (AV.ren ids st.heap.length x) (by rw [er, renL_get, hx]; rfl)
      exact ⟨v, q1, q2, RA.unren hunren' hMc x q3⟩
    | gh l r =>
      have := hHnth b hb
      rw [hbk] at this
      exact absurd this.symm (liveIds_gh (by assumption) _ (nth_mem hb) l r)
   ·rw [hιc0 b (by omega), nth_lt _ _ _ (by omega)]; rfl
  ·by_cases hb : b < ids.length
   ·by_cases hb' : b' < ids.length
    ·rw [hιc b hb] at h1
     rw [hιc b' hb'] at h2
     have e := hr.mem.hr.inj _ _ _ _ _ _ _ h1 h2
     rw [← idxN_nth hnd hb, ← idxN_nth hnd hb', e]
    ·rw [hιc0 b' (by omega)] at h2; cases h2
   ·rw [hιc0 b (by omega)] at h1; cases h1
  ·by_cases hb : b < ids.length
   ·rw [hιc b hb] at h1
    rintro (hX | ⟨_, b', o', s', g1, _, g2⟩)
    ·exact hr.mem.hr.dis _ _ _ _ h1 hX
    ·have e := hr.mem.hr.inj _ _ _ _ _ _ _ h1 g2
     exact g1 (e ▸ nth_mem hb)
   ·rw [hιc0 b (by omega)] at h1; cases h1
 have hXlt : ∀ c, ιc.X c → c < w.heap.size := fun c hc => by
  rcases hc with hX | ⟨_, b, o, s, _, _, hb⟩
  ·exact hr.mem.xl c hX
  ·exact hr.mem.hr.lt ⟨b, o, s, hb⟩
 obtain ⟨hKl, hKg⟩ := hK.get
 have hRAL : RAL w ιc args' vs := by
  refine ⟨by rw [hargs.1, hKl, renL_len], fun i x hx => ?_⟩
  obtain ⟨x0, g0, g1⟩ := hKg i (AV.ren ids st.heap.length x) (by rw [renL_get, hx]; rfl)
  exact RA.unren hunren hMc2 x (KLe.sound hr.mem.hr hfz hkp hM2 (hargs.2 i x0 g0) g1)
 have hcall := hfn w ιc vs (fun h => h) hXlt hHR hRAL
 unfold Oper.wp
 rw [hrun, run_callFunc hcallable]
 refine Calls.mono hcall ?_
 rintro e w' ⟨r, v, ι', H', rfl, hPost, hHl, hHR', hRA', ⟨hX', hnG⟩, hkeep, hgrow, hnew, hos, hfix⟩
 show After cx q w k (a.put o.dst v) w'
 obtain ⟨hfl, hkk⟩ := hk r H' hPost hHl
 have hXc' : ι'.X = Xc := hX'
 let ι3 : Inj := { ι with m := fun b => if b ∈ ids then ι' (idxN ids b) else if st.heap.length ≤ b then ι' (ids.length + (b - st.heap.length)) else if b ∈ fr then none else ι b }
 have h3in : ∀ b, b ∈ ids → ι3 b = ι' (idxN ids b) := fun b hb => if_pos hb
 have h3new : ∀ b, b ∉ ids → st.heap.length ≤ b → ι3 b = ι' (ids.length + (b - st.heap.length)) := fun b hb h1 => by
  show (if _ then _ else _) = _
  rw [if_neg hb, if_pos h1]
 have h3fr : ∀ b, b ∉ ids → b < st.heap.length → b ∈ fr → ι3 b = none := fun b hb h1 h2 => by
  show (if _ then _ else _) = _
  rw [if_neg hb, if_neg (by omega), if_pos h2]
 have h3old : ∀ b, b ∉ ids → b < st.heap.length → b ∉ fr → ι3 b = ι b := fun b hb h1 h2 => by
  show (if _ then _ else _) = _
  rw [if_neg hb, if_neg (by omega), if_neg h2]
 have h3cases : ∀ b p, ι3 b = some p → (∃ j, ι' j = some p ∧ b = renB ids st.heap.length j) ∨ (b ∉ ids ∧ b < st.heap.length ∧ b ∉ fr ∧ ι b = some p) := by
  intro b p hp
  by_cases h1 : b ∈ ids
  ·rw [h3in b h1] at hp
   obtain ⟨g1, g2⟩ := idxN_spec h1
   exact .inl ⟨_, hp, by rw [renB_lt g1, g2]⟩
  ·by_cases h2 : st.heap.length ≤ b
   ·rw [h3new b h1 h2] at hp
    exact .inl ⟨_, hp, by rw [renB_ge (by omega)]; omega⟩
   ·by_cases h4 : b ∈ fr
    ·rw [h3fr b h1 (by omega) h4] at hp; cases hp
    ·rw [h3old b h1 (by omega) h4] at hp
     exact .inr ⟨h1, by omega, h4, hp⟩
 have h3ren : ∀ j p, ι' j = some p → ι3 (renB ids st.heap.length j) = some p := fun j p hp => by
  by_cases hj : j < ids.length
  ·rw [renB_lt hj, h3in _ (nth_mem hj), idxN_nth hnd hj]; exact hp
  ·rw [renB_ge (by omega), h3new _ (fun hin => by have := hidlt _ hin; omega) (by omega)]
   rw [← hp]; congr 1; omega
 have hI' : ∀ c, ι'.I c → (∃ b o s, b ∈ ids ∧ ι b = some (c, o, s)) ∨ w.heap.size ≤ c := fun c hc => (hnew c hc).imp (hIc c) id
 have hnoflat : flat = true → ∀ j, ι' j = none := fun hf j => by
  obtain ⟨_, e⟩ := hfl hf
  cases hq : ι' j with
  | none => rfl
  | some p =>
    obtain ⟨c, o, s⟩ := p
    obtain ⟨ob, _, hdd⟩ := hHR'.size hq
    rw [e] at hdd
    exact absurd rfl hdd
 have h3M : ∀ c, ι3.M c → (flat = false → ι'.M c) := by
  intro c hc hf
  rcases hc with ⟨b, o, s, hb⟩ | hX
  ·rcases h3cases b _ hb with ⟨j, hj, _⟩ | ⟨g1, g2, g3, g4⟩
   ·exact .inl ⟨j, o, s, hj⟩
   ·right; rw [hXc']; exact .inr ⟨hf, b, o, s, g1, g3, g4⟩
  ·right; rw [hXc']; exact .inl hX
 have hL3 : Later ι.M w w' ι3.M := by
  refine ⟨fun c x hc hx => hkeep c x (fun hIcc => ?_) hx, fun c hc => ?_, hgrow⟩
  ·obtain ⟨b, o, s, _, hb⟩ := hIc c hIcc
   exact hc (.inl ⟨b, o, s, hb⟩)
  ·rcases hc with ⟨b, o, s, hb⟩ | hX
   ·rcases h3cases b _ hb with ⟨j, hj, _⟩ | ⟨g1, g2, g3, g4⟩
    ·rcases hI' c ⟨j, o, s, hj⟩ with ⟨b', o', s', _, hb'⟩ | hge
     ·exact .inl (.inl ⟨b', o', s', hb'⟩)
     ·exact .inr hge
    ·exact .inl (.inl ⟨b, o, s, g4⟩)
   ·exact .inl (.inr hX)
 have hmvid : ∀ j, j < ids.length → nth 0 ids j ∉ nthIds ids mv → memN mv j = false := by
  intro j hj hn
  rw [memN_false]
  intro hin
  apply hn
  have : ∀ l : List Nat, j ∈ l → nth 0 ids j ∈ nthIds ids l := by
   intro l
   induction l with
   | nil => intro h; cases h
   | cons x r ih =>
     intro h
     rcases List.mem_cons.1 h with e | h
     ·subst e; simp [nthIds]
     ·simp [nthIds, ih h]
  exact this mv hin
 have hkeepι : ∀ b, b ∉ fr ++ nthIds ids mv → ∀ p, ι b = some p → ι3 b = some p := by
  intro b hb p hp
  simp only [List.mem_append, not_or] at hb
  have hlt : b < st.heap.length := by
   rcases Nat.lt_or_ge b st.heap.length with h1 | h1
   ·exact h1
   ·rw [hbig b h1] at hp; cases hp
  by_cases h1 : b ∈ ids
  ·obtain ⟨g1, g2⟩ := idxN_spec h1
   rw [h3in b h1, hfix _ (by omega) (hmvid _ g1 (by rw [g2]; exact hb.2)), hιc _ g1, g2]
   exact hp
  ·rw [h3old b h1 hlt hb.1]; exact hp
 have hheaplen : (killAll (nthIds ids mv) (dropAll fr st)).heap.length = st.heap.length := by rw [killAll_len, dropAll_len]
 have hnth3 := fun b => backH_nth (killAll (nthIds ids mv) (dropAll fr st)).heap ids (renH ids st.heap.length H') b hnd (fun i hi => by rw [hheaplen]; exact hidlt i hi) (by rw [renH_len]; omega)
 have hother : ∀ b c o s, b ∉ ids → ι b = some (c, o, s) → ∀ o' s' j, ι' j = some (c, o', s') → False := by
  intro b c o s hb hbi o' s' j hj
  rcases hI' c ⟨j, o', s', hj⟩ with ⟨b', o2, s2, g1, g2⟩ | hge
  ·have := hr.mem.hr.inj _ _ _ _ _ _ _ hbi g2
   exact hb (this ▸ g1)
  ·have := hr.mem.hr.lt ⟨b, o, s, hbi⟩; omega
 have hRA3 : ∀ x u, RA w' ι' x u → (flat = false ∨ flatV x = true) → RA w' ι3 (AV.ren ids st.heap.length x) u := by
  intro x u hx hor
  cases hfl' : flat with
  | true => exact hx.flat (hor.resolve_left (by simp [hfl'])) _ _
  | false => exact RA.ren h3ren (fun c hc => h3M c hc hfl') hx
 have hmem3 : Mem cx ι3 (backH (killAll (nthIds ids mv) (dropAll fr st)).heap ids (renH ids st.heap.length H')) w' := by
  have hgh' : ∀ j l r, nth .dead H' j ≠ .gh l r := fun j l r e => by
   have := hHR'.blk j
   rw [e] at this
   exact hnG this.2
  have hghr : ∀ j l r, nth .dead (renH ids st.heap.length H') j ≠ .gh l r := fun j l r e => by
   rw [renH_nth] at e
   refine hgh' j l r ?_
   cases hq : nth .dead H' j <;> rw [hq] at e <;> simp [Blk.ren] at e ⊢
   exact e
  refine hr.mem.step ⟨hr.mem.hr.gl.later hL3, fun b => ?_, fun b1 b2 c o1 s1 o2 s2 g1 g2 => ?_, fun b c o s g1 => ?_⟩ (fun c x hc hx => ?_) (fun c hc => ?_) hgrow hos rfl rfl rfl rfl
   (fun b hb => ?_) ?_ (fun l r hl => ?_)
  ·rw [hnth3 b, hheaplen]
   have callee : ∀ j, (flat = true → False) → RB w' ι3 (ι' j) ((nth .dead H' j).ren ids st.heap.length) := by
    intro j hf
    have hf' : flat = false := by cases hq : flat; rfl; exact absurd hq hf
    have hrb := hHR'.blk j
    have hL' : Later ι'.M w' w' ι3.M := ⟨fun _ _ _ h => h, fun c hc => .inl (h3M c hc hf'), Nat.le_refl _⟩
    cases hbk : nth .dead H' j with
    | dead => rw [hbk] at hrb; exact hrb
    | mx cells =>
      rw [hbk] at hrb
      obtain ⟨c, o, s, cs, ty, fz, hp, q1, q2, q3, q4, q5⟩ := hrb
      refine ⟨c, o, s, cs, ty, fz, hp, q1, q2, q3, by rw [renL_len]; exact q4, fun i x hx => ?_⟩
      rw [renL_get] at hx
      obtain ⟨z, hz, rfl⟩ := Option.map_eq_some_iff.1 hx
      obtain ⟨u, p1, p2, p3⟩ := q5 i z hz
      exact ⟨u, p1, p2, hRA3 z u p3 (.inl hf')⟩
    | pr wd rows =>
      rw [hbk] at hrb
      rcases hrb with h0 | ⟨c, o, s, cs, ty, fz, hp, q1, q2, q3, q4, q5, q6⟩
      ·exact .inl h0
      ·refine .inr ⟨c, o, s, cs, ty, fz, hp, q1, q2, q3, q4, q5, fun i row j x hi hx => ?_⟩
       obtain ⟨p1, u, p2, p3⟩ := q6 i row j x hi hx
       exact ⟨p1, u, p2, p3.later hL'⟩
    | mp ag ks ents =>
      rw [hbk] at hrb
      obtain ⟨c, o, s, hp, g1⟩ := hrb
      exact ⟨c, o, s, hp, g1.later hL' rfl⟩
    | ax n arr cells =>
      rw [hbk] at hrb
      have er : arr.map AV.p ++ AV.renL ids st.heap.length cells = AV.renL ids st.heap.length (arr.map AV.p ++ cells) := by rw [renL_app, renL_ps]
      obtain ⟨hn, c, o, s, cs, ty, fz, hp, q1, q2, q3, q4, q5⟩ := hrb
      refine ⟨hn, c, o, s, cs, ty, fz, hp, q1, q2, q3, by rw [er, renL_len]; exact q4, fun i x hx => ?_⟩
      rw [er, renL_get] at hx
      obtain ⟨z, hz, rfl⟩ := Option.map_eq_some_iff.1 hx
      obtain ⟨u, p1, p2, p3⟩ := q5 i z hz
      exact ⟨u, p1, p2, hRA3 z u p3 (.inl hf')⟩
    | gh l r => exact absurd hbk (hgh' j l r)
   by_cases h1 : b ∈ ids
   ·rw [if_pos h1, h3in b h1, renH_nth]
    exact callee _ fun hf => by rw [(hflatn hf).1] at h1; cases h1
   ·rw [if_neg h1]
    by_cases h2 : st.heap.length ≤ b
    ·rw [if_pos h2, h3new b h1 h2, renH_nth]
     cases hfq : flat with
     | true => rw [hnoflat hfq, (hfl hfq).2]; rfl
     | false => exact callee _ (by simp [hfq])
    ·rw [if_neg h2, killAll_nth, dropAll_nth fr st hfrb]
     by_cases h4 : b ∈ fr
     ·rw [if_pos h4, bkills_dead, h3fr b h1 (by omega) h4]; rfl
     ·rw [if_neg h4, ← bkills_append, h3old b h1 (by omega) h4]
      refine (hr.mem.hr.blk b).kills hL3 (fun h => h) hkeepι fun c o s hb => ?_
      obtain ⟨ob, q1, _⟩ := hr.mem.hr.size hb
      rw [q1]
      refine hkeep c _ (fun hIcc => ?_) q1
      obtain ⟨b', o', s', g1, g2⟩ := hIc c hIcc
      have := hr.mem.hr.inj _ _ _ _ _ _ _ hb g2
      exact h1 (this ▸ g1)
  ·rcases h3cases b1 _ g1 with ⟨j1, q1, e1⟩ | ⟨q1, q2, q3, q4⟩
   ·rcases h3cases b2 _ g2 with ⟨j2, p1, e2⟩ | ⟨p1, p2, p3, p4⟩
    ·have := hHR'.inj _ _ _ _ _ _ _ q1 p1
     rw [e1, e2, this]
    ·exact (hother _ _ _ _ p1 p4 _ _ _ q1).elim
   ·rcases h3cases b2 _ g2 with ⟨j2, p1, e2⟩ | ⟨p1, p2, p3, p4⟩
    ·exact (hother _ _ _ _ q1 q4 _ _ _ p1).elim
    ·exact hr.mem.hr.inj _ _ _ _ _ _ _ q4 p4
  ·rcases h3cases b _ g1 with ⟨j1, q1, e1⟩ | ⟨q1, q2, q3, q4⟩
   ·intro hX
    have := hHR'.dis _ _ _ _ q1
    rw [hXc'] at this
    exact this (.inl hX)
   ·exact hr.mem.hr.dis _ _ _ _ q4
  ·refine hkeep c x (fun hIcc => ?_) hx
   obtain ⟨b', o', s', _, g2⟩ := hIc c hIcc
   exact hc ⟨b', o', s', g2⟩
  ·obtain ⟨b, o, s, hb⟩ := hc
   rcases h3cases b _ hb with ⟨j1, q1, e1⟩ | ⟨q1, q2, q3, q4⟩
   ·rcases hI' c ⟨j1, o, s, q1⟩ with ⟨b', o', s', _, g2⟩ | hge
    ·exact .inl ⟨b', o', s', g2⟩
    ·exact .inr hge
   ·exact .inl ⟨b, o, s, q4⟩
  ·have hblt : b < st.heap.length := Nat.lt_of_lt_of_le (cx.fk b hb) hr.mem.kl
   by_cases h1 : b ∈ ids
   ·obtain ⟨g1, g2⟩ := idxN_spec h1
    rw [h3in b h1, hfix _ (by omega) (hmvid _ g1 (by rw [g2]; intro hin; have := hfx1 _ hin; rw [hb] at this; cases this)), hιc _ g1, g2]
   ·rw [h3old b h1 hblt (fun hin => by have := hfx2 _ hin; rw [hb] at this; cases this)]
  ·rw [backH_len _ _ _ (by rw [renH_len]; omega), hheaplen]
   exact Nat.le_trans hr.mem.kl (Nat.le_add_right _ _)
  ·rw [hnth3 0, hheaplen] at hl
   split at hl
   ·exact absurd hl (hghr _ l r)
   ·split at hl
    ·exact absurd hl (hghr _ l r)
    ·rw [killAll_nth, dropAll_nth fr st hfrb] at hl
     split at hl
     ·rw [bkills_dead] at hl; cases hl
     ·exact bkills_of_gh (bkills_of_gh hl)
 have htm : ∀ s, RA w' ι3 (lk (killAll (nthIds ids mv) (dropAll fr st)).tmps s) (a.tmps.getD s undef) := fun s => by
  rw [killAll_lk, dropAll_lk, ← kills_append]
  exact (hr.tm s).kills hL3 hkeepι
 have hres : RA w' ι3 (AV.ren ids st.heap.length r) v := hRA3 r v hRA' (by
  cases hfq : flat with
  | true => exact .inr (hfl hfq).1
  | false => exact .inl rfl)
 refine ⟨⟨ι3, _, Rel.put (st := ⟨(killAll (nthIds ids mv) (dropAll fr st)).tmps, backH (killAll (nthIds ids mv) (dropAll fr st)).heap ids (renH ids st.heap.length H')⟩) ⟨hmem3, htm, hr.sz, hr.df⟩ hd hres, hkk⟩, fun hqt => ?_⟩
 intro c x hx
 refine hkeep c x (fun hIcc => ?_) hx
 obtain ⟨b', o', s', g1, _⟩ := hIc c hIcc
 rw [hqt] at hq
 cases ids with
 | nil => cases g1
 | cons y r => simp [isNil] at hq
end
end Hk
namespace Hk
open Go
set_option linter.unusedVariables false
set_option linter.unusedSimpArgs false
theorem cellEq_eq {k : CK} {x y : PV} (hx : cellK k x) (hy : cellK k y) (h : cellEq x y = true) : x = y := by
 cases k <;> cases x <;> first | exact hx.elim | skip
 all_goals cases y <;> first | exact hy.elim | skip
 ·obtain ⟨rfl, _⟩ := sameK_of hx
  obtain ⟨rfl, _⟩ := sameK_of hy
  simp [cellEq] at h; rw [h]
 ·simp [cellEq] at h; rw [h]
 ·simp [cellEq] at h; rw [h]
theorem cellsEq_eq : ∀ {ks : List CK} {xs ys : List PV}, cellsK ks xs → cellsK ks ys → cellsEq xs ys = true → xs = ys
 | [], [], [], _, _, _ => rfl
 | [], _ :: _, _, h, _, _ => h.elim
 | [], [], _ :: _, _, h, _ => h.elim
 | _ :: _, [], _, h, _, _ => h.elim
 | _ :: _, _ :: _, [], _, h, _ => h.elim
 | k :: ks, x :: r, y :: s, h, g, e => by
   simp only [cellsEq, Bool.and_eq_true] at e
   rw [cellEq_eq h.1 g.1 e.1, cellsEq_eq h.2 g.2 e.2]
theorem keyEq_eq {ag : Bool} {ks : List CK} {x y : PV} (hx : keyOk ag ks x) (hy : keyOk ag ks y) (h : keyEq x y = true) : x = y := by
 rw [keyEq_cells hx hy] at h
 have := cellsEq_eq (keyOk_cells hx) (keyOk_cells hy) h
 cases ag
 ·simpa [keyCells] using this
 ·cases x <;> first | exact hx.elim | skip
  cases y <;> first | exact hy.elim | skip
  simpa [keyCells] using this
theorem cellEq_self {x : PV} (h : plainC x = true) : cellEq x x = true := by cases x <;> first | (simp [cellEq]; done) | cases h
theorem cellsEq_self : ∀ (xs : List PV), (∀ x ∈ xs, plainC x = true) → cellsEq xs xs = true
 | [], _ => rfl
 | x :: r, h => by simp [cellsEq, cellEq_self (h x (by simp)), cellsEq_self r (fun y hy => h y (by simp [hy]))]
theorem sameBits_plain {n : Nat} {x : PV} (h : plainC x = true) : Instr.sameBits n (valOf x) (valOf x) = true := by
 cases x <;> first | (cases h; done) | skip
 all_goals cases n <;> simp [valOf, Instr.sameBits, beq_toListBytes]
theorem sameBits_key {P : Program} {t : TypeId} {ag : Bool} {ks : List CK} (hk : keyK P t = some (ag, ks)) {x : PV} (hx : keyOk ag ks x) : Instr.sameBits 10000 (valT P t (keyCells ag x)) (valT P t (keyCells ag x)) = true := by
 obtain ⟨h1, h2, h3⟩ := keyK_spec hk
 obtain ⟨_, hp⟩ := cellsK_plain (keyOk_cells hx)
 unfold valT
 rw [h2]
 cases ag
 ·simp only [keyCells, List.headD_cons]
  exact sameBits_plain (hp x (by simp [keyCells]))
 ·simp only [Instr.sameBits, beq_self_eq_true, Bool.true_and, List.all_eq_true]
  intro p hpm
  have : p.1 = p.2 ∧ p.1 ∈ (keyCells true x).map valOf := by
   have := List.of_mem_zip (a := p.1) (b := p.2) hpm
   have h4 : ∀ (l : List Value), ∀ q ∈ l.zip l, q.1 = q.2 := by
    intro l
    induction l with
    | nil => simp
    | cons v r ih => intro q hq; simp at hq; rcases hq with rfl | hq; rfl; exact ih q hq
   exact ⟨h4 _ p hpm, by simpa using this.1⟩
  obtain ⟨e, hm⟩ := this
  obtain ⟨y, hy, hye⟩ := List.mem_map.1 hm
  rw [← e, ← hye]
  exact sameBits_plain (hp y hy)
theorem mfind_ge {ents : List (PV × PV)} {x : PV} {i0 i : Nat} {v : PV} (h : mfind ents x i0 = some (i, v)) : ∃ j kk, i = i0 + j ∧ ents[j]? = some (kk, v) ∧ keyEq x kk = true := by
 induction ents generalizing i0 with
 | nil => cases h
 | cons e r ih =>
   obtain ⟨k, u⟩ := e
   unfold mfind at h
   cases hc : keyEq x k with
   | true => rw [hc] at h; cases h; exact ⟨0, k, rfl, rfl, hc⟩
   | false =>
     rw [hc] at h
     obtain ⟨j, kk, h1, h2, h3⟩ := ih h
     exact ⟨j + 1, kk, by omega, by simpa using h2, h3⟩
theorem mput_none {ents : List (PV × PV)} {x v : PV} {i0 : Nat} (h : mfind ents x i0 = none) : mput ents x v = ents ++ [(x, v)] := by
 induction ents generalizing i0 with
 | nil => rfl
 | cons e r ih =>
   obtain ⟨k, u⟩ := e
   unfold mfind at h
   unfold mput
   cases hc : keyEq x k with
   | true => rw [hc] at h; cases h
   | false => rw [hc] at h; simp only [cond_false]; rw [ih h]; rfl
theorem mput_some {ents : List (PV × PV)} {x v u : PV} {i0 j : Nat} (h : mfind ents x i0 = some (i0 + j, u)) : mput ents x v = ents.set j (x, v) := by
 induction ents generalizing i0 j with
 | nil => cases h
 | cons e r ih =>
   obtain ⟨k, w⟩ := e
   unfold mfind at h
   unfold mput
   cases hc : keyEq x k with
   | true =>
     rw [hc] at h
     simp only [cond_true, Option.some.injEq, Prod.mk.injEq] at h
     have : j = 0 := by omega
     subst this
     rfl
   | false =>
     rw [hc] at h
     simp only [cond_false] at h ⊢
     obtain ⟨j', _, h1, _, _⟩ := mfind_ge h
     have e : j = j' + 1 := by omega
     subst e
     rw [ih (j := j') (by rw [h]; congr 2; try omega)]
     rfl
theorem setVal_eq {ents : List (PV × PV)} {n : Nat} {v : PV} : ∀ (i : Nat), (setVal ents n v)[i]? = if i = n then (ents[i]?).map (fun e => (e.1, v)) else ents[i]? := by
 induction ents generalizing n with
 | nil => intro i; simp [setVal]
 | cons e r ih =>
   intro i
   obtain ⟨k, u⟩ := e
   cases n with
   | zero => cases i <;> simp [setVal]
   | succ n => cases i <;> simp [setVal, ih]
theorem setVal_len {ents : List (PV × PV)} {n : Nat} {v : PV} : (setVal ents n v).length = ents.length := by
 induction ents generalizing n with
 | nil => rfl
 | cons e r ih => obtain ⟨k, u⟩ := e; cases n <;> simp [setVal, ih]
theorem setNth_same {α : Type} (d : α) {l : List α} {n : Nat} {x : α} (h : nth d l n = x) (hl : n < l.length) : setNth l n x = l := by
 rw [setNth_eq]
 apply List.ext_getElem?
 intro i
 rw [List.getElem?_set]
 by_cases e : n = i
 ·subst e
  rw [nth_eq, List.getElem?_eq_getElem hl] at h
  simp at h
  simp [hl, h]
 ·simp [e]
section
variable {cx : Cx} {ι : Inj} {st : St} {a : Act} {w : World}
theorem mkmap_sound (hr : Rel cx ι st a w) {o : Oper} {t : TypeId} {ag : Bool} {ks : List CK} (ho : o.op = .makeMap t none) (hd : ∀ t, o.dst = some t → cx.okb t = true)
 {q : Bool} {k : St → Prop} (h : k (newSt st o.dst (.mpr st.heap.length) (.mp ag ks []))) {Q : Exit → Act → World → Prop} : o.wp cx.P a w (After cx q w k) Q := by
 have hrun : (execOp a.eval o).run cx.P w = .ok (.value (.map (some w.heap.size))) (pushW w (.map #[] 0)) := by
  simp [execOp, ho, Instr.makeMap, newObj]
  rfl
 refine wp_value hrun ?_
 have hpush : (pushW w (.map #[] 0)).heap[w.heap.size]? = some (.map #[] 0) := pushW_new _ _
 obtain ⟨hm, hL, hι⟩ := hr.mem.lay (w' := pushW w (.map #[] 0)) (c := w.heap.size) (o := 0) (s := 0) (blk := .mp ag ks []) (Nat.le_refl _) (pushW_old w _) ⟨rfl, rfl⟩
  (fun hL hι => ⟨_, _, _, rfl, #[], hpush, rfl, by simp⟩)
 refine ⟨⟨_, _, ⟨?_, tm_put (st := ⟨st.tmps, st.heap ++ [Blk.mp ag ks []]⟩) (tm_later hL hι hr.tm) hr.sz.1 (fun t ht => cx.okn t (hd t ht)) (RA.mpr (Inj.upd_self _ _ _)), Sz.put hr.sz hd _, by rw [Act.put_df]; exact hr.df⟩, h⟩, fun _ => pushW_old w _⟩
 rw [put_heap]; exact hm
theorem map_turn (hr : Rel cx ι st a w) {b c o s : Nat} (hb : ι b = some (c, o, s)) {ag : Bool} {ks : List CK} {ents : List (PV × PV)} {es : Array MapEntry} {ob : Obj} (hc : w.heap[c]? = some ob) (h2 : es.size = ents.length)
 (h3 : ∀ (i : Nat) k v, ents[i]? = some (k, v) → keyOk ag ks k ∧ ∃ e, es[i]? = some e ∧ e.born = i ∧ RP w ι.M k e.key ∧ RP w ι.M v e.val) :
 Rel cx ι ⟨st.tmps, setNth st.heap b (.mp ag ks ents)⟩ a (setW w c (.map es ents.length)) := by
 have hlt : c < w.heap.size := (Array.getElem?_eq_some_iff.1 hc).1
 obtain ⟨hm, hL⟩ := hr.mem.write hb (w' := setW w c (.map es ents.length)) (blk := .mp ag ks ents) (fun d x hd hx => by rw [setW_ne w _ hd]; exact hx) (by simp [setW]) ⟨rfl, rfl⟩
  (fun hL => ⟨c, o, s, rfl, es, setW_self w c _ hlt, h2, fun i k v hi => by
   obtain ⟨g0, e, g1, g2, g3, g4⟩ := h3 i k v hi
   exact ⟨g0, e, g1, g2, g3.later hL, g4.later hL⟩⟩)
 exact ⟨hm, tm_later hL (fun _ _ h => h) hr.tm, hr.sz, hr.df⟩
theorem modify_get (es : Array MapEntry) (i j : Nat) (f : MapEntry → MapEntry) : (es.modify i f)[j]? = if i = j then (es[j]?).map f else es[j]? := Array.getElem?_modify
theorem keyStays {P : Program} {v : Value} (h : Instr.sameBits 10000 v v = true) (w : World) : (Instr.keyThatStays v v).run P w = .ok v w := by
 simp [Instr.keyThatStays, h]
theorem mset_sound (hr : Rel cx ι st a w) {o : Oper} {t kt et : TypeId} {m x v : Operand} {m' x' v' : Opd} (ho : o.op = .mapUpdate t m x v ∨ o.op = .insert t m x v) (hu : cx.P.underlying t = some (.map kt et)) {ag : Bool} {ks : List CK}
 (hk : keyK cx.P kt = some (ag, ks)) (hm : cOpd m = some m') (hx : cOpd x = some x') (hv : cOpd v = some v') (hd : ∀ t, o.dst = some t → cx.okb t = true)
 {k : St → Prop} (h : vro cx.E false (.mset ag ks m' x' v') o.dst st k) {Q : Exit → Act → World → Prop} : o.wp cx.P a w (Kc cx k) Q := by
 have h : vmset ag ks (ev st m') (ev st x') (ev st v') o.dst st k := force_of (k := fun v => vmset ag ks (ev st m') (ev st x') v o.dst st k) (force_of (k := fun x => force (ev st v') fun v => vmset ag ks (ev st m') x v o.dst st k) h)
 obtain ⟨y, hy, h⟩ := pureV_of h
 obtain ⟨u, hu', hkey, h⟩ := pureV_of h
 obtain ⟨b, ents, hmb, hn, hkk⟩ := vmap_of h
 have hmv := ev_sound hr.mem.hr.gl hr.tm hm
 have hxv := ev_sound hr.mem.hr.gl hr.tm hx
 have hvv := ev_sound hr.mem.hr.gl hr.tm hv
 rw [hmb] at hmv
 rw [hy] at hxv
 rw [hu'] at hvv
 obtain ⟨c, of, s, hmc, hb, es, h1, h2, h3⟩ := map_of hr.mem.hr hmv hn
 have hxe := key_val hk hkey (RA_pp hxv)
 obtain ⟨q, hq, hrun⟩ := findKey_run hk hkey (MapAt.ents hk h2 h3)
 have hck := checkKey_plain 20 kt ks (keyK_spec hk).1 10000 (by omega) false _ (keyOk_cells hkey)
 have hop : ∀ w', (Instr.mapUpdate t (a.eval m) (a.eval x) (a.eval v)).run cx.P w = .ok () w' → (execOp a.eval o).run cx.P w = .ok .skip w' := fun w' h => by
  rcases ho with ho | ho <;> simp [execOp, ho, h]
 cases hf : mfind ents y 0 with
 | none =>
   rw [hf] at hq
   have hq : q = none := hq
   subst hq
   have hput := mput_none (v := u) hf
   have hrel := map_turn (ag := ag) (ks := ks) (ents := ents ++ [(y, u)]) (es := es.push { key := a.eval x, val := a.eval v, born := ents.length }) hr hb h1 (by simp [h2]) (fun i k v hi => by
    rw [List.getElem?_append] at hi
    by_cases hlt : i < ents.length
    ·rw [if_pos hlt] at hi
     obtain ⟨g0, e, g1, g2, g3, g4⟩ := h3 i k v hi
     refine ⟨g0, e, ?_, g2, g3, g4⟩
     rw [Array.getElem?_push_lt (by omega)]
     rw [Array.getElem?_eq_getElem (by omega)] at g1
     exact g1
    ·rw [if_neg hlt] at hi
     have hie : i = ents.length := by
      have := (List.getElem?_eq_some_iff.1 hi).1
      simp at this; omega
     subst hie
     simp at hi
     obtain ⟨rfl, rfl⟩ := hi
     exact ⟨hkey, { key := a.eval x, val := a.eval _, born := ents.length }, by rw [← h2]; simp, rfl, RA_pp hxv, RA_pp hvv⟩)
   rw [← hput] at hrel
   refine wp_skip' (hop _ ?_) ⟨ι, _, Rel.put hrel hd (.und _), hkk⟩
   simp only [Instr.mapUpdate, hmc, Sem.run_bind, run_underlying hu, Result.andThen_ok, run_getMap h1, hxe, hck, hrun, run_setMap _ h1]
   have : (ents ++ [(y, u)]).length = ents.length + 1 := by simp
   rw [hput, this]
   rfl
 | some iv =>
   obtain ⟨i, v0⟩ := iv
   rw [hf] at hq
   obtain ⟨j, e, kk, e1, e2, e3, rfl⟩ := hq
   have e1 : i = j := by omega
   subst e1
   obtain ⟨j', kk', e5, e6, e7⟩ := mfind_ge hf
   have e5 : i = j' := by omega
   subst e5
   rw [e3] at e6; cases e6
   have hput := mput_some (x := y) (v := u) (u := v0) (i0 := 0) (j := i) (by rw [hf]; simp)
   have hej : es[i]? = some e := by simpa using e2
   obtain ⟨g0, e', g1, g2, g3, g4⟩ := h3 i kk v0 e3
   rw [hej] at g1; cases g1
   have hkeq : y = kk := keyEq_eq hkey g0 e7
   subst hkeq
   have hold : e.key = a.eval x := by rw [hxe]; exact key_val hk hkey g3
   have hilt : i < ents.length := (List.getElem?_eq_some_iff.1 e3).1
   have hrel := map_turn (ag := ag) (ks := ks) (ents := ents.set i (y, u)) (es := es.modify i fun e => { e with key := a.eval x, val := a.eval v }) hr hb h1 (by simp [h2]) (fun n k v hi => by
    rw [List.getElem?_set] at hi
    rw [modify_get]
    by_cases hlt : i = n
    ·subst hlt
     rw [if_pos rfl, if_pos hilt] at hi
     cases hi
     exact ⟨hkey, { e with key := a.eval x, val := a.eval v }, by rw [if_pos rfl, hej]; rfl, g2, RA_pp hxv, RA_pp hvv⟩
    ·rw [if_neg hlt] at hi
     rw [if_neg hlt]
     exact h3 n k v hi)
   rw [← hput] at hrel
   refine wp_skip' (hop _ ?_) ⟨ι, _, Rel.put hrel hd (.und _), hkk⟩
   have hks := keyStays (P := cx.P) (v := a.eval x) (by rw [hxe]; exact sameBits_key hk hkey) w
   rw [hxe] at hks
   simp only [Instr.mapUpdate, hmc, Sem.run_bind, run_underlying hu, Result.andThen_ok, run_getMap h1, hxe, hck, hrun, hej, Option.map_some, Option.getD_some, hold, hks, run_setMap _ h1]
   have : (mput ents y u).length = ents.length := by rw [hput]; simp
   rw [this]
   rfl
theorem ment_sound (hr : Rel cx ι st a w) {o : Oper} {t kt et : TypeId} {m x : Operand} {m' x' : Opd} (ho : o.op = .mapEntry t m x) (hu : cx.P.underlying t = some (.map kt et)) {ag : Bool} {ks : List CK}
 (hk : keyK cx.P kt = some (ag, ks)) {z : PV} (hz : zeroV cx.P et = some z) (hm : cOpd m = some m') (hx : cOpd x = some x') (hd : ∀ t, o.dst = some t → cx.okb t = true)
 {k : St → Prop} (h : vro cx.E false (.ment ag ks z m' x') o.dst st k) {Q : Exit → Act → World → Prop} : o.wp cx.P a w (Kc cx k) Q := by
 have h : vment ag ks z (ev st m') (ev st x') o.dst st k := force_of (k := fun x => vment ag ks z (ev st m') x o.dst st k) h
 obtain ⟨y, hy, hkey, h⟩ := pureV_of h
 obtain ⟨b, ents, hmb, hn, q0, hq0, hkk⟩ := vmap_of h
 have hmv := ev_sound hr.mem.hr.gl hr.tm hm
 have hxv := ev_sound hr.mem.hr.gl hr.tm hx
 rw [hmb] at hmv
 rw [hy] at hxv
 obtain ⟨c, of, s, hmc, hb, es, h1, h2, h3⟩ := map_of hr.mem.hr hmv hn
 have hxe := key_val hk hkey (RA_pp hxv)
 obtain ⟨q, hq, hrun⟩ := findKey_run hk hkey (MapAt.ents hk h2 h3)
 have hck := checkKey_plain 20 kt ks (keyK_spec hk).1 10000 (by omega) false _ (keyOk_cells hkey)
 have hop : ∀ v w', (Instr.mapEntry t (a.eval m) (a.eval x)).run cx.P w = .ok v w' → (execOp a.eval o).run cx.P w = .ok (.value v) w' := fun v w' h => by
  simp [execOp, ho, h]
 have tup : ∀ (ι' : Inj) (w' : World) (u : PV) (uv : Value) (n : Nat), RP w' ι'.M u uv → RA w' ι' (.tup [.p u, .p (.int .i64 (n : Nat))]) (.tuple #[uv, goInt n]) := fun ι' w' u uv n h => by
  refine .tup rfl fun i x hi => ?_
  cases i with
  | zero => simp at hi; subst hi; exact .p h
  | succ i => cases i with
    | zero => simp at hi; subst hi; exact .p (.int _ _)
    | succ i => simp at hi
 cases hf : mfind ents y 0 with
 | none =>
   rw [hf] at hq
   have hq : q = none := hq
   subst hq
   rw [hf] at hq0
   subst hq0
   obtain ⟨zv, hz1, hz2⟩ := zeroV_sound (w := w) (M := ι.M) hz
   have hrel := map_turn (ag := ag) (ks := ks) (ents := ents ++ [(y, z)]) (es := es.push { key := a.eval x, val := zv, born := ents.length }) hr hb h1 (by simp [h2]) (fun i k v hi => by
    rw [List.getElem?_append] at hi
    by_cases hlt : i < ents.length
    ·rw [if_pos hlt] at hi
     obtain ⟨g0, e, g1, g2, g3, g4⟩ := h3 i k v hi
     refine ⟨g0, e, ?_, g2, g3, g4⟩
     rw [Array.getElem?_push_lt (by omega)]
     rw [Array.getElem?_eq_getElem (by omega)] at g1
     exact g1
    ·rw [if_neg hlt] at hi
     have hie : i = ents.length := by
      have := (List.getElem?_eq_some_iff.1 hi).1
      simp at this; omega
     subst hie
     simp at hi
     obtain ⟨rfl, rfl⟩ := hi
     exact ⟨hkey, { key := a.eval x, val := zv, born := ents.length }, by rw [← h2]; simp, rfl, RA_pp hxv, hz1⟩)
   have hlen : (ents ++ [(y, z)]).length = ents.length + 1 := by simp
   refine wp_value (hop (.tuple #[zv, goInt ents.length]) _ ?_) ⟨ι, _, Rel.put hrel hd (tup _ _ _ _ _ (hz1.later ⟨fun d ob hdM hx => ?_, fun c hc => .inl hc, by simp [setW]⟩)), hkk⟩
   ·simp only [Instr.mapEntry, hmc, Sem.run_bind, run_underlying hu, Result.andThen_ok, run_getMap h1, hxe, hck, hrun, hz2, run_setMap _ h1]
    rw [hlen]
    rfl
   ·have hne : d ≠ c := fun e => by subst e; exact hdM (.inl ⟨b, of, s, hb⟩)
    rw [setW_ne w _ hne]; exact hx
 | some iv =>
   obtain ⟨i, v0⟩ := iv
   rw [hf] at hq
   rw [hf] at hq0
   subst hq0
   obtain ⟨j, e, kk, e1, e2, e3, rfl⟩ := hq
   have e1 : i = j := by omega
   subst e1
   obtain ⟨j', kk', e5, e6, e7⟩ := mfind_ge hf
   have e5 : i = j' := by omega
   subst e5
   rw [e3] at e6; cases e6
   have hej : es[i]? = some e := by simpa using e2
   obtain ⟨g0, e', g1, g2, g3, g4⟩ := h3 i kk v0 e3
   rw [hej] at g1; cases g1
   have hkeq : y = kk := keyEq_eq hkey g0 e7
   subst hkeq
   have hold : e.key = a.eval x := by rw [hxe]; exact key_val hk hkey g3
   have hilt : i < ents.length := (List.getElem?_eq_some_iff.1 e3).1
   have hrel := map_turn (ag := ag) (ks := ks) (ents := ents) (es := es.modify i fun e => { e with key := a.eval x }) hr hb h1 (by simp [h2]) (fun n k v hi => by
    rw [modify_get]
    obtain ⟨q0, e2, q1, q2, q3, q4⟩ := h3 n k v hi
    by_cases hlt : i = n
    ·subst hlt
     rw [hej] at q1; cases q1
     rw [e3] at hi; cases hi
     exact ⟨hkey, { e with key := a.eval x }, by rw [if_pos rfl, hej]; rfl, g2, RA_pp hxv, g4⟩
    ·rw [if_neg hlt]
     exact ⟨q0, e2, q1, q2, q3, q4⟩)
   have hblt : b < st.heap.length := hr.mem.hr.blen (by rw [hn]; simp)
   rw [setNth_same Blk.dead hn hblt] at hrel
   refine wp_value (hop (.tuple #[e.val, goInt i]) _ ?_) ⟨ι, _, Rel.put hrel hd (tup _ _ _ _ _ (g4.later ⟨fun d ob hdM hx => ?_, fun c hc => .inl hc, by simp [setW]⟩)), hkk⟩
   ·have hks := keyStays (P := cx.P) (v := a.eval x) (by rw [hxe]; exact sameBits_key hk hkey) w
    rw [hxe] at hks
    simp only [Instr.mapEntry, hmc, Sem.run_bind, run_underlying hu, Result.andThen_ok, run_getMap h1, hxe, hck, hrun, hej, Option.map_some, Option.getD_some, hold, hks, run_setMap _ h1, g2]
    rfl
   ·have hne : d ≠ c := fun e => by subst e; exact hdM (.inl ⟨b, of, s, hb⟩)
    rw [setW_ne w _ hne]; exact hx
theorem find_born {es : Array MapEntry} {n : Nat} (hn : n < es.size) (h : ∀ (i : Nat) e, es[i]? = some e → e.born = i) : es.findIdx? (fun e => (e.born : Int) == (n : Int)) = some n := by
 rw [Array.findIdx?_eq_some_iff_getElem]
 refine ⟨hn, ?_, fun j hj => ?_⟩
 ·have := h n _ (Array.getElem?_eq_getElem hn)
  simp [this]
 ·have := h j _ (Array.getElem?_eq_getElem (by omega))
  simp only [this, Bool.not_eq_true, beq_eq_false_iff_ne]
  omega
theorem estore_sound (hr : Rel cx ι st a w) {o : Oper} {t : TypeId} {m s v : Operand} {m' s' v' : Opd} (ho : o.op = .entryStore t m s v)
 (hm : cOpd m = some m') (hs : cOpd s = some s') (hv : cOpd v = some v') (hd : ∀ t, o.dst = some t → cx.okb t = true)
 {k : St → Prop} (h : vro cx.E false (.estore m' s' v') o.dst st k) {Q : Exit → Act → World → Prop} : o.wp cx.P a w (Kc cx k) Q := by
 have h : vestore (ev st m') (ev st s') (ev st v') o.dst st k := force_of (k := fun v => vestore (ev st m') (ev st s') v o.dst st k) h
 obtain ⟨u, hu, h⟩ := pureV_of h
 have hmv := ev_sound hr.mem.hr.gl hr.tm hm
 have hsv := ev_sound hr.mem.hr.gl hr.tm hs
 have hvv := ev_sound hr.mem.hr.gl hr.tm hv
 rw [hu] at hvv
 generalize hma : ev st m' = ma at h hmv
 generalize hsa : ev st s' = sa at h hsv
 split at h
 ·rename_i b kk n
  split at h
  ·rename_i ag ks ents hn
   obtain ⟨⟨hn0, hn1⟩, hkk⟩ := h
   obtain ⟨c, of, sz, hmc, hb, es, h1, h2, h3⟩ := map_of hr.mem.hr hmv hn
   have hse := RA_int hsv
   have hborn : ∀ (i : Nat) e, es[i]? = some e → e.born = i := fun i e he => by
    have hlt : i < ents.length := by have := (Array.getElem?_eq_some_iff.1 he).1; omega
    obtain ⟨_, e', g1, g2, _⟩ := h3 i ents[i].1 ents[i].2 (by rw [List.getElem?_eq_getElem hlt])
    rw [he] at g1; cases g1; exact g2
   have hrel := map_turn (ag := ag) (ks := ks) (ents := setVal ents n.toNat u) (es := es.modify n.toNat fun e => { e with val := a.eval v }) hr hb h1 (by simp [setVal_len, h2]) (fun i k w0 hi => by
    rw [setVal_eq] at hi
    rw [modify_get]
    by_cases e : i = n.toNat
    ·subst e
     rw [if_pos rfl] at hi
     obtain ⟨⟨k0, v0⟩, hk0, hk1⟩ := Option.map_eq_some_iff.1 hi
     cases hk1
     obtain ⟨g0, e, g1, g2, g3, g4⟩ := h3 _ _ _ hk0
     exact ⟨g0, { e with val := a.eval v }, by rw [if_pos rfl, g1]; rfl, g2, g3, RA_pp hvv⟩
    ·rw [if_neg e] at hi
     rw [if_neg (Ne.symm e)]
     exact h3 i k w0 hi)
   refine wp_skip' (w' := setW w c (.map (es.modify n.toNat fun e => { e with val := a.eval v }) (setVal ents n.toNat u).length)) ?_ ⟨ι, _, Rel.put hrel hd (.und _), hkk⟩
   have hfind := find_born (es := es) (n := n.toNat) (by omega) hborn
   have hnn : ((n.toNat : Nat) : Int) = n := Int.toNat_of_nonneg hn0
   rw [hnn] at hfind
   have hrun : (Instr.entryStore t (a.eval m) (a.eval s) (a.eval v)).run cx.P w = .ok () (setW w c (.map (es.modify n.toNat fun e => { e with val := a.eval v }) (setVal ents n.toNat u).length)) := by
    simp only [Instr.entryStore, hmc, hse, Sem.run_bind, run_getMap h1, Result.andThen_ok, asInt, asIntOf, Sem.run_pure, hfind, run_setMap _ h1, setVal_len]
    rfl
   simp [execOp, ho, hrun]
  ·exact h.elim
 ·exact h.elim
end
end Hk
namespace Hk
open Go
set_option linter.unusedVariables false
set_option linter.unusedSimpArgs false
section
variable {cx : Cx} {ι : Inj} {st : St} {a : Act} {w : World}
theorem clr_sound (hr : Rel cx ι st a w) {o : Oper} {s : Operand} {s' : Opd} {dT e : TypeId} {esz : Nat} {z : List PV} {c : Call} (ho : o.op = .call c) (hcal : c.callee = .builtin .clear)
 (hargs : c.args = #[s]) (htys : c.argTypes = #[dT]) (hu : cx.P.underlying dT = some (.slice e)) (hs : szT cx.P e = some esz) (hz : zeroT cx.P e = some z) (hzl : z.length = esz) (hpos : 0 < esz)
 (hcs : cOpd s = some s') (hd : ∀ t, o.dst = some t → cx.okb t = true)
 {k : St → Prop} (h : vro cx.E false (.clr s' z esz) o.dst st k) {Q : Exit → Act → World → Prop} : o.wp cx.P a w (Kc cx k) Q := by
 have hsv := ev_sound hr.mem.hr.gl hr.tm hcs
 replace h : vclr st (ev st s') z esz o.dst k := force_of (k := fun s => vclr st s z esz o.dst k) h
 generalize ev st s' = as at h hsv
 have run : ∀ v w', (Builtin.clear_ #[dT] o.type #[a.eval s]).run cx.P w = .ok v w' → (execOp a.eval o).run cx.P w = .ok (.value v) w' := fun v w' h1 => by
  simp [execOp, ho, resolve, hcal, hargs, htys, invoke, builtin, h1]
 generalize hes : a.eval s = vs at hsv run
 obtain ⟨i0, v0, hi0, hz0, _, hzr, hzs⟩ := zeroT_sound (w := w) (ι := ι) hz
 unfold vclr at h
 split at h
 ·rename_i b wd i len cap0
  split at h
  ·rename_i wd' rows hn
   cases hw : (Nat.beq wd wd' && Nat.beq wd esz) with
   | false => rw [hw] at h; exact h.elim
   | true =>
     rw [hw] at h
     simp only [cond_true] at h
     obtain ⟨e1, e2⟩ := by simpa using hw
     subst e1; subst e2
     obtain ⟨hfull, hk⟩ := h
     have hval := zero_rows (w := w) (ι := ι) hzr hzs hzl len
     generalize hnew : (List.range (len * wd)).map (fun i => v0.cells[i % v0.cells.size]!) = new at hval
     have hvl := hval.1
     simp only [List.length_replicate] at hvl
     have hmx : (List.replicate len z).length = len := by simp
     have hzc : (Builtin.zeroCells v0.cells len).toList = new := by
      rw [← hnew, ← hzl, ← hzs]
      unfold Builtin.zeroCells
      simp
     cases hsv with
     | slz hcap =>
       rename_i oa
       have hsame : Mem cx ι (setNth st.heap b (.pr wd (rows.take i ++ List.replicate 0 z ++ rows.drop (i + 0)))) w := by
        have : rows.take i ++ List.replicate 0 z ++ rows.drop (i + 0) = rows := by simp
        rw [this]
        rw [setNth_same .dead hn (hr.mem.hr.blen (by rw [hn]; simp))]
        exact hr.mem
       have hrun2 : (execOp a.eval o).run cx.P w = .ok (.value (.tuple #[])) w := by
        apply run
        cases oa <;> simp [Builtin.clear_, run_underlying hu]
       exact wp_value hrun2 ⟨ι, _, Rel.put (st := ⟨st.tmps, setNth st.heap b (.pr wd (rows.take i ++ List.replicate 0 z ++ rows.drop (i + 0)))⟩) ⟨hsame, hr.tm, hr.sz, hr.df⟩ hd (.tup rfl (fun i x h => by simp at h)), hk⟩
     | sl hb hl hcap hs' =>
       rename_i c o' s cc
       have hrb := hr.mem.hr.blk b
       rw [hn, hb] at hrb
       obtain ⟨cs, ty, fz, hc, ht, hsz, hlen2, hrl, hcell⟩ := hrb.at
       have hmul : (i + len) * wd ≤ rows.length * wd := Nat.mul_le_mul_right _ (by omega)
       rw [Nat.add_mul] at hmul
       have hbound : o' + i * wd + new.length ≤ cs.size := by omega
       have hst := run_storeCells (P := cx.P) c (o' + i * wd) ty fz new 0 cs w hc (by omega) ht hval.one
       simp only [Nat.add_zero] at hst
       have hrun2 : (execOp a.eval o).run cx.P w = .ok (.value (.tuple #[])) (setW w c (.cells (segA cs (o' + i * wd) new) ty fz)) := by
        apply run
        have hzero : (zeroValue e).run cx.P w = .ok v0 w := run_zeroValue hi0 hz0 w
        have e5 : (Builtin.clear_ #[dT] o.type #[.slice (some ⟨c, o' + i * wd, none⟩) len cc]).run cx.P w = ((storeCells ⟨c, o' + i * wd, none⟩ new).run cx.P w).andThen fun _ w' => .ok (.tuple #[]) w' := by
         by_cases hl0 : len = 0
         ·subst hl0
          have : new = [] := List.eq_nil_of_length_eq_zero (by rw [hvl]; simp)
          subst this
          simp [Builtin.clear_, run_underlying hu, storeCells]
         ·obtain ⟨len', rfl⟩ : ∃ m, len = m + 1 := ⟨len - 1, by omega⟩
          simp [Builtin.clear_, run_underlying hu, hzero, hzc]
        rw [e5, hst]
        rfl
       have hblk : BlkAt w ι (segA cs (o' + i * wd) new) o' (.pr wd (rows.take i ++ List.replicate len z ++ rows.drop (i + len))) := by
        refine ⟨?_, fun n r hr' => ?_, fun n r j y hr' hy => ?_⟩
        ·rw [segA_size _ _ _ hbound]
         have := seg_len rows i (List.replicate len z) (by omega)
         rw [hmx] at this
         rw [this]; exact hlen2
        ·have hg := seg_get rows i (List.replicate len z) (by omega) n
         rw [hmx] at hg
         rw [hg] at hr'
         split at hr'
         ·exact hval.2.1 _ _ hr'
         ·exact hrl _ _ hr'
        ·rw [segA_get _ _ _ hbound, hvl]
         have hg := seg_get rows i (List.replicate len z) (by omega) n
         rw [hmx] at hg
         rw [hg] at hr'
         split at hr'
         ·rename_i hin
          obtain ⟨g1, u, g2, g3⟩ := hval.2.2 _ _ j y hr' hy
          have hlt := (List.getElem?_eq_some_iff.1 g2).1
          have e3 : n * wd = i * wd + (n - i) * wd := by rw [← Nat.add_mul]; congr 1; omega
          rw [if_pos (by omega)]
          exact ⟨g1, u, by rw [← g2]; congr 1; omega, g3⟩
         ·rename_i hout
          have hj : j < wd := by rw [← hrl _ _ hr']; exact (List.getElem?_eq_some_iff.1 hy).1
          rw [if_neg]
          ·exact hcell n r j y hr' hy
          ·rintro ⟨q1, q2⟩
           rcases Nat.lt_or_ge n i with h4 | h4
           ·have := row_pos h4 hj; omega
           ·have h5 : i + len ≤ n := by omega
            have := Nat.mul_le_mul_right wd h5
            rw [Nat.add_mul] at this
            omega
       obtain ⟨hm', hL⟩ := hr.mem.write hb (w' := setW w c (.cells (segA cs (o' + i * wd) new) ty fz)) (blk := .pr wd (rows.take i ++ List.replicate len z ++ rows.drop (i + len)))
        (fun d z hd' hz => by rw [setW_ne _ _ hd']; exact hz) (by simp [setW]) ⟨rfl, rfl⟩
        (fun hL => by
         have := (hblk.later_pr hL).rb (ty := ty) (fz := fz) (setW_self w c _ (Array.getElem?_eq_some_iff.1 hc).1) (by rw [segA_size _ _ _ hbound]; exact ht)
         rw [segA_size _ _ _ hbound, hsz] at this
         exact this)
       exact wp_value hrun2 ⟨ι, _, Rel.put (st := ⟨st.tmps, setNth st.heap b (.pr wd (rows.take i ++ List.replicate len z ++ rows.drop (i + len)))⟩) ⟨hm', tm_later hL (fun _ _ h => h) hr.tm, hr.sz, hr.df⟩ hd (.tup rfl (fun i x h => by simp at h)), hk⟩
  ·exact h.elim
 ·exact h.elim
end
end Hk
namespace Hk
open Go
set_option linter.unusedVariables false
set_option linter.unusedSimpArgs false
def Wd (F : Fence) : Prop := F = Fence.wide ∨ ∃ l, F = Fence.wide.inRound l
def opW (P : Program) (o : Oper) (a : Act) (w : World) (K : Act → World → Prop) (Q : Exit → Act → World → Prop) : Prop :=
 o.uponIn Fence.wide 0 P a K Q ((execOp a.eval o).run P w)
section
variable {P : Program} {o : Oper} {a : Act} {w : World} {K : Act → World → Prop} {Q : Exit → Act → World → Prop}
theorem rowsIn_wide {row : String} {args : Array Value} {R : Value → World → Prop} (h : Rows P row args w R) : RowsIn Fence.wide 0 P row args w R :=
 fun c cs _ => let ⟨v, w', r, s⟩ := h c cs; ⟨v, w', r, stepsIn_wide.2 s⟩
theorem opW_of_wp (h : o.wp P a w K Q) : opW P o a w K Q := by
 unfold Oper.wp at h
 unfold opW
 generalize (execOp a.eval o).run P w = r at *
 cases r with
 | ok x w' =>
   cases x <;> simp only [Oper.upon] at h <;> simp only [Oper.uponIn] <;> first
    | exact h
    | exact ⟨fun h => absurd h (by simp [Fence.wide]), CallsIn.mono (callsIn_wide.2 h) (fun e w he => by cases e <;> exact he)⟩
    | exact ⟨fun h => absurd h (by simp [Fence.wide]), rowsIn_wide h⟩
    | exact h.elim
 | halt x w' => cases x <;> simp only [Oper.upon] at h <;> simp only [Oper.uponIn] <;> first | exact h | exact h.elim
theorem opW_mono {K' : Act → World → Prop} (hk : ∀ a w, K a w → K' a w) (h : opW P o a w K Q) : opW P o a w K' Q := by
 unfold opW at *
 generalize (execOp a.eval o).run P w = r at *
 cases r with
 | ok x w' =>
   cases x <;> simp only [Oper.uponIn] at h ⊢ <;>
    first
     | exact hk _ _ h
     | exact ⟨h.1, CallsIn.mono h.2 (fun e w'' he => by cases e <;> first | exact hk _ _ he | exact he)⟩
     | exact ⟨h.1, RowsIn.mono h.2 (fun _ _ he => hk _ _ he)⟩
     | exact ⟨h.1, RoundIn.mono h.2 (fun e w'' he => by cases e <;> first | exact hk _ _ he | exact he)⟩
 | halt x w' => cases x <;> simp only [Oper.uponIn] at h ⊢ <;> exact h
theorem wpIn_of_opW {F : Fence} (hF : Wd F) (hnd : ∀ c, o.op ≠ .defer c) (h : opW P o a w K Q) : o.wpIn F 0 P a w K Q := by
 have e : Oper.semAt F.round a.eval o = execOp a.eval o := Oper.semAt_eq _ _ _ hnd
 unfold Oper.wpIn
 rw [e]
 rcases hF with rfl | ⟨l, rfl⟩
 ·exact ⟨fun _ _ => trivial, h⟩
 ·refine ⟨fun _ _ => trivial, ?_⟩
  unfold opW at h
  generalize (execOp a.eval o).run P w = r at *
  cases r with
  | ok x w' =>
    cases x <;> simp only [Oper.uponIn] at h ⊢ <;> exact h
  | halt x w' => cases x <;> simp only [Oper.uponIn] at h ⊢ <;> exact h
variable {ops : Array Oper}
def wpListW (P : Program) (ops : Array Oper) (Q : Exit → Act → World → Prop) : List Oper → Act → World → Prop
 | [], a, w => Q .normal a w
 | o :: rest, a, w => if Region.wanted o (yielded ops a.tmps) then opW P o a w (wpListW P ops Q rest) Q else wpListW P ops Q rest (a.put o.dst undef) w
theorem wpListIn_of {F : Fence} (hF : Wd F) : ∀ (l : List Oper), (∀ o ∈ l, ∀ c, o.op ≠ .defer c) → ∀ {a w}, wpListW P ops Q l a w → wpListIn F 0 P ops Q l a w
 | [], _, a, w, h => h
 | o :: r, hd, a, w, h => by
   unfold wpListW at h
   unfold wpListIn
   split
   ·rename_i hw
    rw [if_pos hw] at h
    exact wpIn_of_opW hF (hd o (by simp)) (opW_mono (fun a w => wpListIn_of hF r (fun o ho => hd o (by simp [ho]))) h)
   ·rename_i hw
    rw [if_neg hw] at h
    exact ⟨fun f _ => by rcases hF with rfl | ⟨l, rfl⟩ <;> trivial, wpListIn_of hF r (fun o ho => hd o (by simp [ho])) h⟩
def wpOpW (P : Program) (ops : Array Oper) (Q : Exit → Act → World → Prop) (i : Nat) (K : Act → World → Prop) (a : Act) (w : World) : Prop :=
 match ops[i]? with
 | none => K a w
 | some o => if Region.wanted o (yielded ops a.tmps) then opW P o a w K Q else K (a.put o.dst undef) w
theorem wpOpW_mono {i : Nat} {K' : Act → World → Prop} (hk : ∀ a w, K a w → K' a w) (h : wpOpW P ops Q i K a w) : wpOpW P ops Q i K' a w := by
 unfold wpOpW at *
 split
 ·exact hk _ _ (by simpa [*] using h)
 ·rename_i o ho
  simp only [ho] at h
  split
  ·rename_i hw; simp only [hw, if_true] at h; exact opW_mono hk h
  ·rename_i hw; simp only [hw] at h; exact hk _ _ h
theorem wpOpIn_of {F : Fence} (hF : Wd F) (hd : ∀ (i : Nat) o, ops[i]? = some o → ∀ c, o.op ≠ .defer c) {i : Nat} (h : wpOpW P ops Q i K a w) : wpOpIn F 0 P ops Q i K a w := by
 unfold wpOpW at h
 unfold wpOpIn
 cases ho : ops[i]? with
 | none => simpa [ho] using h
 | some o =>
   simp only [ho] at h ⊢
   split
   ·rename_i hw
    rw [if_pos hw] at h
    exact wpIn_of_opW hF (hd i o ho) h
   ·rename_i hw
    rw [if_neg hw] at h
    exact ⟨fun f _ => by rcases hF with rfl | ⟨l, rfl⟩ <;> trivial, h⟩
variable {S : World → Prop}
theorem yieldsIf_wpOpW {i : Nat} {v : Value} (hi : ops[i]? = some o) (hy : YieldsIf P ops S o v a) (hS : S w) (h : K (a.put o.dst v) w) : wpOpW P ops Q i K a w := by
 unfold wpOpW
 simp only [hi]
 rcases hy with ⟨hw, hv⟩ | ⟨hw, rfl⟩
 ·simp only [hw, if_true, opW, hv w hS, Oper.uponIn]; exact h
 ·simp only [hw, Bool.false_eq_true, if_false]; exact h
theorem wpOpW_putIf {j : Nat} {oi oj : Oper} {v : Value} (hj : ops[j]? = some oj) (hap : oi.apart ops oj = true)
 (hsi : ∀ cs b, oi.op ≠ .select cs b) (hsj : ∀ cs b, oj.op ≠ .select cs b)
 (hQ : ∀ c a w, Q (.panic c) (a.put oi.dst v) w → Q (.panic c) a w)
 (hy : YieldsIf P ops S oi v a) (h : wpOpW P ops Q j K (a.put oi.dst v) w) :
 wpOpW P ops Q j (fun a' w' => YieldsIf P ops S oi v a' ∧ K (a'.put oi.dst v) w') a w := by
 obtain ⟨h1, h2, h3⟩ := Oper.apart_spec hap
 have keep : ∀ (a : Act), YieldsIf P ops S oi v a → ∀ u, YieldsIf P ops S oi v (a.put oj.dst u) := fun a hy u =>
  hy.of_same (execOp_put oi hsi a oj.dst u h3) (wanted_put oi a oj.dst u h3)
 have keepD : ∀ d, YieldsIf P ops S oi v { a with defers := d :: a.defers } := fun d => hy.of_same rfl rfl
 unfold wpOpW at *
 simp only [hj] at *
 rw [wanted_put oj a oi.dst v h1] at h
 split
 ·rename_i hw
  simp only [hw, if_true] at h
  unfold opW at *
  rw [execOp_put oj hsj a oi.dst v h1] at h
  generalize (execOp a.eval oj).run P w = r at *
  cases r with
  | ok x w' =>
    cases x <;> simp only [Oper.uponIn] at h ⊢
    case value u => exact ⟨keep a hy u, by rw [← Act.put_comm a v u h2]; exact h⟩
    case skip => exact ⟨keep a hy _, by rw [← Act.put_comm a v undef h2]; exact h⟩
    case defer d =>
     refine ⟨keep _ (keepD d) _, ?_⟩
     rw [← Act.put_comm _ v undef h2, ← Act.put_defers]
     exact h
    case enter f args =>
     refine ⟨h.1, CallsIn.mono h.2 fun e w'' he => ?_⟩
     cases e with
     | returned u => exact ⟨keep a hy u, by rw [← Act.put_comm a v u h2]; exact he⟩
     | panicked c => exact hQ _ _ _ he
     | outgrown => exact he
    case row row args => exact ⟨h.1, RowsIn.mono h.2 fun u w'' he => ⟨keep a hy u, by rw [← Act.put_comm a v u h2]; exact he⟩⟩
    case round l f tmps assign body =>
     refine ⟨h.1, RoundIn.mono h.2 fun e w'' he => ?_⟩
     cases e with
     | returned u => exact ⟨keep a hy u, by rw [← Act.put_comm a v u h2]; exact he⟩
     | panicked c => exact hQ _ _ _ he
     | outgrown => exact he
  | halt x w' =>
    cases x <;> simp only [Oper.uponIn] at h ⊢
    case panic u => exact hQ _ _ _ h
 ·rename_i hw
  simp only [hw] at h
  exact ⟨keep a hy _, by rw [← Act.put_comm a v undef h2]; exact h⟩
end
end Hk
namespace Hk
open Go
set_option linter.unusedVariables false
set_option linter.unusedSimpArgs false
section
variable {cx : Cx} {ι : Inj} {st : St} {a : Act} {w : World}
structure Knows (cx : Cx) : Prop where
 fn : ∀ f args H mv Post, cx.E.F f args H mv Post → Fn cx.P f args H mv Post
 it : ∀ g caps en ys, cx.E.G g caps en ys → Gives cx.P g caps en ys
 yl : cx.ι0.G → YieldSpec cx.P cx.ι0.X cx.J cx.yl
theorem Mem.chg {h : List Blk} {l : Nat} {y : List PV} {r r' : Option (List (List PV))} (hm : Mem cx ι (.gh l r :: h) w) {w' : World} {S' : Nat → Prop} (hc : Chg ι.S w w' S') (hj : cx.J r' w' ι.I S') :
 Mem cx { ι with X := fun c => ι.X c ∨ S' c, S := S' } (.gh l r' :: h) w' ∧ Later ι.M w w' ({ ι with X := fun c => ι.X c ∨ S' c, S := S' } : Inj).M := by
 have hIlt : ∀ c, ι.I c → c < w.heap.size := fun c hc => hm.hr.lt hc
 have hIX : ∀ c, ι.I c → ¬ ι.X c := fun c ⟨b, o, s, hb⟩ => hm.hr.dis _ _ _ _ hb
 have hL : Later ι.M w w' ({ ι with X := fun c => ι.X c ∨ S' c, S := S' } : Inj).M := by
  refine ⟨fun c o hM hx => hc.keep c o (fun hS => hM (.inr (hm.xs c hS))) hx, fun c hM => ?_, hc.grow⟩
  rcases hM with hM | hM | hM
  ·exact .inl (.inl hM)
  ·exact .inl (.inr hM)
  ·rcases hc.new c hM with h1 | h1
   ·exact .inl (.inr (hm.xs c h1))
   ·exact .inr h1
 have hgh := hm.hr.blk 0
 have hgh : ι 0 = none ∧ ι.G := hgh
 obtain ⟨hyl, _⟩ := hm.jt l r rfl
 refine ⟨⟨⟨hm.hr.gl.later hL, fun b => ?_, hm.hr.inj, fun b c o s hb => ?_⟩, ?_, ?_, ?_, ?_, hm.ge, hm.ow, ?_, Nat.le_trans hm.gr hc.grow, ⟨hc.os.1.trans hm.os.1, hc.os.2.trans hm.os.2⟩, hm.fx, hm.kl, ?_, hm.dn, ?_, fun hg c h => hc.up c (hm.su hg c h), hm.dz⟩, hL⟩
 ·cases b with
  | zero => exact hgh
  | succ b =>
    refine (hm.hr.blk (b + 1)).later hL (fun h => h) (fun _ _ h => h) fun c o s hb => ?_
    have hIc : ι.I c := ⟨b + 1, o, s, hb⟩
    obtain ⟨ob, h1, _⟩ := hm.hr.size hb
    rw [h1]
    exact hc.keep c _ (fun hS => hIX c hIc (hm.xs c hS)) h1
 ·have hIc : ι.I c := ⟨b, o, s, hb⟩
  rintro (hX | hX)
  ·exact hIX c hIc hX
  ·rcases hc.new c hX with h1 | h1
   ·exact hIX c hIc (hm.xs c h1)
   ·have := hIlt c hIc; omega
 ·rintro c (hX | hX)
  ·exact Nat.lt_of_lt_of_le (hm.xl c hX) hc.grow
  ·exact hc.lt c hX
 ·exact fun c hS => .inr hS
 ·exact fun c hX => .inl (hm.xe c hX)
 ·intro c hS
  rcases hc.new c hS with h1 | h1
  ·exact hm.se c h1
  ·exact .inr (Nat.le_trans hm.gr h1)
 ·intro c h1 h2 h3
  have h5 := hm.fr c h1 h2 h3
  have h6 : cx.w0.heap[c]? = some cx.w0.heap[c] := Array.getElem?_eq_getElem h3
  rw [h6] at h5 ⊢
  refine hc.keep c _ (fun hS => ?_) h5
  rcases hm.se c hS with h7 | h7
  ·exact h2 h7
  ·omega
 ·intro d hd
  obtain ⟨h1, h2, h3, h4⟩ := hm.dm d hd
  refine ⟨.inl h1, fun hS => ?_, h3, hc.keep d _ h2 h4⟩
  rcases hc.new d hS with h5 | h5
  ·exact h2 h5
  ·have := (Array.getElem?_eq_some_iff.1 h4).1; omega
 ·intro l2 r2 e
  cases e
  exact ⟨hyl, hj⟩
theorem allPL_of {l : List AV} {k : List PV → Prop} (h : allPL l k) : ∃ ps, l = ps.map .p ∧ k ps := by
 have main : ∀ (l : List AV) (ps : List PV), allP l = some ps → l = ps.map .p := by
  intro l
  induction l with
  | nil => intro ps h; cases h; rfl
  | cons x r ih =>
    intro ps h
    cases x <;> simp only [allP] at h <;> first | (cases h; done) | skip
    split at h
    ·rename_i l2 h2
     cases h
     rw [ih _ h2]; rfl
    ·cases h
 unfold allPL at h
 split at h
 ·rename_i ps hp
  exact ⟨ps, main _ _ hp, h⟩
 ·exact h.elim
theorem vyield_sound (hF : Knows cx) (hr : Rel cx ι st a w) {o : Oper} {l : Nat} {args : List AV} {vs : Array Value} (hrun : (execOp a.eval o).run cx.P w = (Instr.yield l vs).run cx.P w) (hargs : RAL w ι args vs)
 (hd : ∀ t, o.dst = some t → cx.okb t = true) {k : St → Prop} (h : vyield cx.E.en l args o.dst st k) {Q : Exit → Act → World → Prop} : opW cx.P o a w (After cx false w k) Q := by
 obtain ⟨t, hp⟩ := st
 unfold vyield at h
 split at h
 ·rename_i l' y r hh heq
  simp only at heq
  subst heq
  obtain ⟨rfl, h⟩ := h
  obtain ⟨ps, rfl, rfl, hk1, hk2⟩ := allPL_of h
  have hm := hr.mem
  obtain ⟨hyl, hj⟩ := hm.jt l (some (ps :: r)) rfl
  have hG : ι.G := (hm.hr.blk 0).2
  have hY := hF.yl (hm.ge ▸ hG)
  rw [← hyl] at hY
  have hrp : RPL w (fun c => ι.I c ∨ ι.X c) ps vs := ⟨by simpa using hargs.1, fun i x hx => RA_p (hargs.2 i (.p x) (by simp [hx]))⟩
  obtain ⟨fn, tmps, assign, body, hy, hround⟩ := hY ps r w ι.I ι.S ι.X vs hj hm.xe hm.xs hrp
  unfold opW
  rw [hrun, hy]
  refine ⟨fun h => absurd h (by simp [Fence.wide]), RoundIn.mono hround ?_⟩
  rintro e w' ⟨S', hc, ⟨rfl, hj'⟩ | ⟨rfl, hj'⟩⟩
  ·obtain ⟨hm', hL⟩ := Mem.chg (y := ps) hm hc hj'
   have hk1 : k ((⟨t, .gh l (some r) :: hh⟩ : St).put o.dst (.p (.b true))) := by
    cases he : cx.E.en with
    | false => rw [he] at hk1; exact hk1
    | true =>
      cases r with
      | nil => exact absurd hj' (cx.je he _ _ _)
      | cons z r => rw [he] at hk1; exact hk1
   exact ⟨⟨_, _, Rel.put (st := ⟨t, .gh l (some r) :: hh⟩) ⟨hm', tm_later hL (fun _ _ h => h) hr.tm, hr.sz, hr.df⟩ hd (.p (.b true)), hk1⟩, fun h => by cases h⟩
  ·obtain ⟨hm', hL⟩ := Mem.chg (y := ps) hm hc hj'
   exact ⟨⟨_, _, Rel.put (st := ⟨t, .gh l none :: hh⟩) ⟨hm', tm_later hL (fun _ _ h => h) hr.tm, hr.sz, hr.df⟩ hd (.p (.b false)), hk2⟩, fun h => by cases h⟩
 ·exact h.elim
theorem vro_vals {ro : RO} (h : valsOnly ro = true) {E : En} {q : Bool} {d : Option Nat} {k : St → Prop} (hv : vro E q ro d st k) : vval ro st fun v => k (st.put d v) := by
 cases ro <;> first | exact hv | (simp [valsOnly] at h)
theorem vals_sound (hr : Rel cx ι st a w) {o : Oper} {ro : RO} (hc : cop cx.P o = some ro) (hd : ∀ t, o.dst = some t → cx.okb t = true) {q : Bool} {k : St → Prop}
 (h : vval ro st fun v => k (st.put o.dst v)) {Q : Exit → Act → World → Prop} : o.wp cx.P a w (After cx q w k) Q := by
 obtain ⟨av, v, hk, hra, hrun⟩ := vval_sound hr.mem.hr.gl hr.tm hr.mem.hr hc h
 exact wp_value (hrun w (Ext.refl w)) ⟨⟨ι, _, hr.put hd hra, hk⟩, fun _ => Ext.refl w⟩
theorem RAL.of_evL (gl : Glb w ι.M) (tm : ∀ s, RA w ι (lk st.tmps s) (a.tmps.getD s undef)) {l : Array Operand} {l' : List Opd} (h : cOpds l.toList = some l') : RAL w ι (evL st l') (l.map a.eval) := by
 obtain ⟨h1, h2⟩ := evL_sound gl tm h
 have e1 : (l.toList.map a.eval).toArray = l.map a.eval := by apply Array.ext'; simp
 rw [e1] at h2
 exact ⟨by simp [h1], h2⟩
theorem RAL.append {x y : List AV} {vs us : Array Value} (h1 : RAL w ι x vs) (h2 : RAL w ι y us) : RAL w ι (x ++ y) (vs ++ us) := by
 refine ⟨by simp [h1.1, h2.1], fun i z hz => ?_⟩
 rw [List.getElem?_append] at hz
 by_cases hi : i < x.length
 ·rw [if_pos hi] at hz
  have := h1.2 i z hz
  have hlt : i < vs.size := by rw [h1.1]; exact hi
  simpa [Array.getElem?_append, hlt] using this
 ·rw [if_neg hi] at hz
  have := h2.2 _ z hz
  have hlt : ¬ i < vs.size := by rw [h1.1]; exact hi
  rw [← h1.1] at this
  simpa [Array.getElem?_append, hlt] using this
theorem RAL.ofP {x : List PV} {vs : Array Value} (h1 : vs.size = x.length) (h2 : ∀ (i : Nat) y, x[i]? = some y → RP w ι.M y (vs.getD i undef)) : RAL w ι (x.map .p) vs := by
 refine ⟨by simp [h1], fun i z hz => ?_⟩
 rw [List.getElem?_map] at hz
 obtain ⟨y, hy, rfl⟩ := Option.map_eq_some_iff.1 hz
 exact .p (h2 i y hy)
theorem Kc.after {k : St → Prop} {a' : Act} {w' : World} (h : Kc cx k a' w') : After cx false w k a' w' := ⟨h, fun h => by cases h⟩
theorem vro_sound (hF : Knows cx) (hr : Rel cx ι st a w) {o : Oper} {ro : RO} (hc : cop cx.P o = some ro) (hd : ∀ t, o.dst = some t → cx.okb t = true) {q : Bool} {k : St → Prop}
 (h : vro cx.E q ro o.dst st k) {Q : Exit → Act → World → Prop} : opW cx.P o a w (After cx q w k) Q := by
 cases hv : valsOnly ro with
 | true => exact opW_of_wp (vals_sound hr hc hd (vro_vals hv h))
 | false =>
   have hc0 := hc
   unfold cop at hc
   split at hc
   case h_6 e ho =>
    obtain ⟨z, hz, rfl⟩ := Option.map_eq_some_iff.1 hc
    rcases cAlloc_cases cx.P e z with e1 | ⟨n, z0, rest, e1, h1, h2, h3⟩
    ·rw [e1] at h; exact opW_of_wp (alloc_sound hr ho hz hd h)
    ·rw [e1] at h; exact opW_of_wp (allocx_sound hr ho hz h1 h2 h3 hd h)
   case h_7 e x ho =>
    split at hc
    ·rename_i x' s hx hs
     cases hc
     rcases cBox_cases cx.P e x' s with e1 | ⟨n, e1⟩
     ·rw [e1] at h; exact opW_of_wp (box_sound hr ho hx hd h)
     ·rw [e1] at h; exact opW_of_wp (boxx_sound hr ho hx hd h)
    ·cases hc
   case h_9 t len parts ho =>
    split at hc
    ·rename_i e hu
     split at hc
     ·rename_i s l hs hp
      split at hc
      ·rename_i hcond
       cases hc
       exact opW_of_wp (bslice_sound hr ho hu hs hp hcond.1 hcond.2.1 hcond.2.2.1 hcond.2.2.2 hd h)
      ·cases hc
     ·cases hc
    ·cases hc
   case h_11 t x v ho =>
    split at hc
    ·rename_i x' v' s hx hvv hs
     cases hc
     cases q with
     | true => exact h.elim
     | false => exact opW_of_wp (Oper.wp_mono (fun _ _ => Kc.after) (storeAt_sound hr ho hx hvv hs hd h))
    ·cases hc
   case h_18 s d x ho =>
    split at hc
    ·cases hc; cases hv
    ·cases hc; cases hv
    ·split at hc
     ·cases hc; cases hv
     ·cases hc
    ·rename_i e x' hs ht hx
     split at hc
     ·rename_i he
      cases hc; exact opW_of_wp (bytesOf_sound hr ho hs ht he hx hd h)
     ·cases hc
    ·cases hc
   case h_21 t l c ho =>
    split at hc
    ·rename_i e l' c' hu hl hcc
     split at hc
     ·rename_i z s b hz hs hb
      split at hc
      ·rename_i hcond
       cases hc
       exact opW_of_wp (mksl_sound hr ho hu hl hcc hz hs hb hcond.1 hcond.2.1 hd h)
      ·cases hc
     ·cases hc
    ·cases hc
   case h_23 c ho =>
    split at hc
    ·rename_i f hcal
     obtain ⟨l, hl, rfl⟩ := Option.map_eq_some_iff.1 hc
     have hcal' : c.callee = .value (.func f) := hcal
     refine opW_of_wp (vcall_sound hF.fn hr (vs := c.args.map a.eval) ?_ (RAL.of_evL hr.mem.hr.gl hr.tm hl) hd h)
     simp [execOp, ho, resolve, hcal', Deferred.ofValue, invoke, Act.eval]
    ·rename_i x hx0 hcal
     split at hc
     ·rename_i x' l hx hl
      cases hc
      have hxv := ev_sound hr.mem.hr.gl hr.tm hx
      have hal := RAL.of_evL hr.mem.hr.gl hr.tm hl
      have h : vcallv cx.E q (ev st x') (evL st l) o.dst st k := h
      have hcal' : c.callee = .value x := hcal
      generalize ev st x' = af at h hxv
      unfold vcallv at h
      split at h
      ·rename_i f fi ca
       have hp := RA_p hxv
       generalize hfv : a.eval x = fv at hp
       cases hp
       rename_i fa cav h1 h2 h3 h4
       refine opW_of_wp (vcall_sound hF.fn hr (vs := fa ++ c.args.map a.eval ++ cav) ?_ (((RAL.ofP h1 h2).append hal).append (RAL.ofP h3 h4)) hd h)
       simp [execOp, ho, resolve, hcal', hfv, Deferred.ofValue, invoke]
      ·rename_i f fi ca
       generalize hfv : a.eval x = fv at hxv
       cases hxv
       rename_i fa cav h1 h2 h3 h4
       refine opW_of_wp (vcall_sound hF.fn hr (vs := fa ++ c.args.map a.eval ++ cav) ?_ ((RAL.append ⟨h1, h2⟩ hal).append ⟨h3, h4⟩) hd h)
       simp [execOp, ho, resolve, hcal', hfv, Deferred.ofValue, invoke]
      ·rename_i l2 fi2 ca2
       cases q with
       | true => exact h.elim
       | false =>
         obtain ⟨rfl, h⟩ := h
         have hfv := RA_lit hxv
         refine vyield_sound hF hr (vs := c.args.map a.eval) ?_ hal hd h
         simp [execOp, ho, resolve, hcal', hfv, Deferred.ofValue, invoke]
      ·exact h.elim
     ·cases hc
    ·split at hc
     ·split at hc
      ·cases hc; cases hv
      ·cases hc; cases hv
      ·cases hc; cases hv
      ·cases hc
     ·cases hc
    ·rename_i hcal
     split at hc
     ·rename_i s x sT xT hargs htys
      have hargs' : c.args = #[s, x] := by apply Array.ext'; simpa using hargs
      have htys' : c.argTypes = #[sT, xT] := by apply Array.ext'; simpa using htys
      split at hc
      ·rename_i e e' s' x' hu hu' hs hx
       split at hc
       ·rename_i z n b hz hn hb
        split at hc
        ·rename_i hcond
         cases hc
         cases q with
         | true => exact h.elim
         | false => exact opW_of_wp (Oper.wp_mono (fun _ _ => Kc.after) (app_sound hr ho hcal hargs' htys' hu (.inl ⟨_, hu'⟩) hn hb hz hcond.1 hcond.2.2 hcond.2.1 hs hx hd h))
        ·cases hc
       ·cases hc
      ·rename_i e s' x' hu hu' hs hx
       split at hc
       ·rename_i z n b hz hn hb
        split at hc
        ·rename_i hcond
         cases hc
         cases q with
         | true => exact h.elim
         | false => exact opW_of_wp (Oper.wp_mono (fun _ _ => Kc.after) (app_sound hr ho hcal hargs' htys' hu (.inr hu') hn hb hz hcond.1 hcond.2.2 hcond.2.1 hs hx hd h))
        ·cases hc
       ·cases hc
      ·cases hc
     ·cases hc
    ·rename_i hcal
     split at hc
     ·rename_i s x sT xT hargs htys
      have hargs' : c.args = #[s, x] := by apply Array.ext'; simpa using hargs
      have htys' : c.argTypes = #[sT, xT] := by apply Array.ext'; simpa using htys
      split at hc
      ·rename_i e s' x' hu hs hx
       obtain ⟨n, hn, rfl⟩ := Option.map_eq_some_iff.1 hc
       cases q with
       | true => exact h.elim
       | false => exact opW_of_wp (Oper.wp_mono (fun _ _ => Kc.after) (copy_sound hr ho hcal hargs' htys' hu hn hs hx hd h))
      ·cases hc
     ·cases hc
    ·split at hc
     ·split at hc
      ·cases hc; cases hv
      ·cases hc
     ·cases hc
    ·split at hc
     ·split at hc
      ·cases hc; cases hv
      ·cases hc
     ·cases hc
    ·rename_i hcal
     split at hc
     ·rename_i s sT hargs htys
      have hargs' : c.args = #[s] := by apply Array.ext'; simpa using hargs
      have htys' : c.argTypes = #[sT] := by apply Array.ext'; simpa using htys
      split at hc
      ·rename_i e s' hu hs
       split at hc
       ·rename_i z n hz hn
        split at hc
        ·rename_i hcond
         cases hc
         cases q with
         | true => exact h.elim
         | false => exact opW_of_wp (Oper.wp_mono (fun _ _ => Kc.after) (clr_sound hr ho hcal hargs' htys' hu hn hz hcond.1 hcond.2 hs hd h))
        ·cases hc
       ·cases hc
      ·cases hc
     ·cases hc
    ·cases hc
   case h_24 t ho =>
    split at hc
    ·obtain ⟨⟨ag, ks⟩, hk, rfl⟩ := Option.map_eq_some_iff.1 hc
     exact opW_of_wp (mkmap_sound hr ho hd h)
    ·cases hc
   case h_26 t m x v ho =>
    split at hc
    ·rename_i kt et hu
     split at hc
     ·rename_i ag ks m' x' v' hk hm hx hvv
      cases hc
      cases q with
      | true => exact h.elim
      | false => exact opW_of_wp (Oper.wp_mono (fun _ _ => Kc.after) (mset_sound hr (.inl ho) hu hk hm hx hvv hd h))
     ·cases hc
    ·cases hc
   case h_27 t m x v ho =>
    split at hc
    ·rename_i kt et hu
     split at hc
     ·rename_i ag ks m' x' v' hk hm hx hvv
      cases hc
      cases q with
      | true => exact h.elim
      | false => exact opW_of_wp (Oper.wp_mono (fun _ _ => Kc.after) (mset_sound hr (.inr ho) hu hk hm hx hvv hd h))
     ·cases hc
    ·cases hc
   case h_28 t m x ho =>
    split at hc
    ·rename_i kt et hu
     split at hc
     ·rename_i ag ks z m' x' hk hz hm hx
      cases hc
      cases q with
      | true => exact h.elim
      | false => exact opW_of_wp (Oper.wp_mono (fun _ _ => Kc.after) (ment_sound hr ho hu hk hz hm hx hd h))
     ·cases hc
    ·cases hc
   case h_29 t m s v ho =>
    split at hc
    ·rename_i m' s' v' hm hs hvv
     cases hc
     cases q with
     | true => exact h.elim
     | false => exact opW_of_wp (Oper.wp_mono (fun _ _ => Kc.after) (estore_sound hr ho hm hs hvv hd h))
    ·cases hc
   all_goals first
    | (obtain ⟨x', hx, rfl⟩ := Option.map_eq_some_iff.1 hc; cases hv)
    | skip
   all_goals exfalso
   all_goals revert hc
   all_goals repeat' split
   all_goals intro hc
   all_goals first
    | (cases hc; done)
    | (cases hc; cases hv; done)
    | (unfold cBin at hc; revert hc; repeat' split
       all_goals intro hc
       all_goals first | (cases hc; done) | (cases hc; cases hv; done))
    | (obtain ⟨x', hx, hc⟩ := Option.map_eq_some_iff.1 hc; subst hc; cases hv; done)
    | (obtain ⟨x', hx, hc⟩ := Option.map_eq_some_iff.1 hc; subst hc; rcases cBuild_cases cx.P _ _ x' with e1 | ⟨_, _, _, e1, _⟩ <;> (rw [e1] at hv; cases hv; done))
    | (obtain ⟨x', hx, hc⟩ := Option.bind_eq_some_iff.1 hc; first | (cases hc; done) | (cases hc; cases hv; done))
    | skip
end
end Hk
namespace Hk
open Go
set_option linter.unusedVariables false
set_option linter.unusedSimpArgs false
section
variable {P : Program} {ops : Array Oper} {Q : Exit → Act → World → Prop} {md : Region.Mode}
def reach (md : Region.Mode) (ops : Array Oper) (i : Nat) : Nat → Nat → Bool
 | 0, _ => false
 | n + 1, j => match ops[j]? with
   | some o => o.after.any fun e => Region.binds md e && (e.on == i || reach md ops i n e.on)
   | none => false
def still (ops : Array Oper) (i : Nat) : Bool :=
 match ops[i]? with
 | some o => stillOp o
 | none => false
def ptrArg (P : Program) (c : Call) : Bool := c.argTypes.any fun t => match P.underlying t with
 | some (.pointer _) => true
 | _ => false
def turner (P : Program) (o : Oper) : Bool :=
 match o.op with
 | .store _ _ _ | .mapUpdate _ _ _ _ | .insert _ _ _ _ | .mapEntry _ _ _ | .entryStore _ _ _ _ => true
 | .call c => match c.callee with
   | .builtin .append | .builtin .copy | .builtin .clear => true
   | .builtin _ => false
   | _ => ptrArg P c
 | _ => false
def risky (P : Program) (md : Region.Mode) (ops : Array Oper) (i : Nat) : Bool :=
 (List.range ops.size).any fun j => (match ops[j]? with
  | some o => turner P o
  | none => false) && !(i == j || reach md ops i 5 j || reach md ops j 5 i)
def calm (P : Program) (md : Region.Mode) (ops : Array Oper) (i : Nat) : Bool := still ops i || risky P md ops i
def alone (P : Program) (md : Region.Mode) (ops : Array Oper) (j : Nat) : Bool :=
 (List.range ops.size).all fun i => i == j || reach md ops i 5 j || reach md ops j 5 i || calm P md ops i
def Closed (md : Region.Mode) (ops : Array Oper) (listed : Array Bool) : Prop :=
 ∀ (k : Nat) (o : Oper), listed.getD k false = true → ops[k]? = some o → ∀ e ∈ o.after, Region.binds md e = true → listed.getD e.on false = true
theorem getD_set_mono {listed : Array Bool} {j k : Nat} (h : listed.getD k false = true) : (listed.setIfInBounds j true).getD k false = true := by
 by_cases e : j = k
 ·subst e
  have : j < listed.size := by
   rcases Nat.lt_or_ge j listed.size with h' | h'
   ·exact h'
   ·simp [Array.getElem?_eq_none h'] at h
  simp [this]
 ·simp only [Array.getD_eq_getD_getElem?] at *
  rw [Array.getElem?_setIfInBounds_ne e]; exact h
theorem Closed.set {listed : Array Bool} (h : Closed md ops listed) {j : Nat} (hj : j ∈ Region.ready md ops listed) : Closed md ops (listed.setIfInBounds j true) := by
 intro k o hk ho e he hb
 by_cases ek : j = k
 ·subst ek
  obtain ⟨_, oj, hoj, hall⟩ := mem_ready.1 hj
  rw [ho] at hoj; cases hoj
  exact getD_set_mono (hall e he hb)
 ·have : listed.getD k false = true := by
   simp only [Array.getD_eq_getD_getElem?] at *
   rw [Array.getElem?_setIfInBounds_ne ek] at hk; exact hk
  exact getD_set_mono (h k o this ho e he hb)
theorem reach_listed {listed : Array Bool} (hcl : Closed md ops listed) {i : Nat} : ∀ (n j : Nat) (oj : Oper), ops[j]? = some oj →
 (∀ e ∈ oj.after, Region.binds md e = true → listed.getD e.on false = true) → reach md ops i n j = true → listed.getD i false = true
 | 0, j, oj, _, _, h => by cases h
 | n + 1, j, oj, hj, hall, h => by
   simp only [reach, hj, Array.any_eq_true', Bool.and_eq_true, Bool.or_eq_true, beq_iff_eq] at h
   obtain ⟨e, he, hb, h⟩ := h
   rcases h with h | h
   ·rw [← h]; exact hall e he hb
   ·cases ho : ops[e.on]? with
    | none => cases n <;> simp [reach, ho] at h
    | some o => exact reach_listed hcl n e.on o ho (fun e' he' hb' => hcl e.on o (hall e he hb) ho e' he' hb') h
theorem alone_spec {listed : Array Bool} (hcl : Closed md ops listed) {i j : Nat} (hst : calm P md ops i = false) (h : alone P md ops j = true) (hi : i ∈ Region.ready md ops listed) (hj : j ∈ Region.ready md ops listed) : i = j := by
 obtain ⟨hi1, oi, hoi, hai⟩ := mem_ready.1 hi
 obtain ⟨hj1, oj, hoj, haj⟩ := mem_ready.1 hj
 have hlt := (Array.getElem?_eq_some_iff.1 hoi).1
 have h := List.all_eq_true.1 h i (by simpa using hlt)
 have un : ∀ {k}, listed.getD k true = false → listed.getD k false = true → False := fun {k} h1 h2 => by
  rcases Nat.lt_or_ge k listed.size with h' | h'
  ·simp [h'] at h1 h2; rw [h1] at h2; cases h2
  ·simp [Array.getElem?_eq_none h'] at h2
 simp only [hst, Bool.or_eq_true, beq_iff_eq, Bool.false_eq_true, or_false] at h
 rcases h with (h | h) | h
 ·exact h
 ·exact (un hi1 (reach_listed hcl 5 j oj hoj haj h)).elim
 ·exact (un hj1 (reach_listed hcl 5 i oi hoi hai h)).elim
def wpAnyE (P : Program) (md : Region.Mode) (ops : Array Oper) (Q : Exit → Act → World → Prop) : Nat → Array Bool → Act → World → Prop
 | 0, listed, a, w => Region.ready md ops listed = [] ∧ Q .normal a w
 | fuel + 1, listed, a, w =>
   (Region.ready md ops listed = [] → Q .normal a w) ∧
   ∀ i ∈ Region.ready md ops listed, wpOpW P ops Q i (fun a' w' => (alone P md ops i = false → Ext w w') ∧ wpAnyE P md ops Q fuel (listed.setIfInBounds i true) a' w') a w
theorem wpAny_of_ext {F : Fence} (hF : Wd F) (hd : ∀ (i : Nat) o, ops[i]? = some o → ∀ c, o.op ≠ .defer c) : ∀ (fuel : Nat) (listed : Array Bool) (a : Act) (w : World),
 wpAnyE P md ops Q fuel listed a w → wpAnyIn F 0 P md ops Q fuel listed a w
 | 0, _, _, _, h => h
 | fuel + 1, _, _, _, h => ⟨h.1, fun i hi => wpOpIn_of hF hd (wpOpW_mono (fun a' w' h' => wpAny_of_ext hF hd fuel _ a' w' h'.2) (h.2 i hi))⟩
theorem YieldsIf.weaken {S S' : World → Prop} (h : ∀ w, S' w → S w) {o : Oper} {v : Value} {a : Act} (hy : YieldsIf P ops S o v a) : YieldsIf P ops S' o v a :=
 hy.imp (fun ⟨h1, h2⟩ => ⟨h1, fun w hw => h2 w (h w hw)⟩) id
theorem wpAnyE_first {i : Nat} {oi : Oper} {v : Value} (hi : ops[i]? = some oi) (hsel : ∀ (j : Nat) (o : Oper) cs b, ops[j]? = some o → o.op ≠ .select cs b)
 (hQ : ∀ c a w, Q (.panic c) (a.put oi.dst v) w → Q (.panic c) a w)
 {S : World → World → Prop} (hS : ∀ w w', Ext w w' → S w w') (hSt : ∀ w w' w'', S w w' → S w' w'' → S w w'') (hSj : calm P md ops i = true → ∀ w w', S w w') :
 ∀ (fuel : Nat) (listed : Array Bool) (a : Act) (w : World),
  (∀ j oj, ops[j]? = some oj → j ≠ i → listed.getD j true = false → (∀ e ∈ oj.after, Region.binds md e = true → e.on ≠ i) → oi.apart ops oj = true) →
  Closed md ops listed → i ∈ Region.ready md ops listed → YieldsIf P ops (S w) oi v a →
  wpAnyE P md ops Q fuel (listed.setIfInBounds i true) (a.put oi.dst v) w → wpAnyE P md ops Q (fuel + 1) listed a w := by
 intro fuel
 induction fuel with
 | zero =>
   intro listed a w _ _ hr hy H
   refine ⟨fun h => (by rw [h] at hr; cases hr), fun j hj => ?_⟩
   by_cases hji : j = i
   ·subst hji; exact yieldsIf_wpOpW hi hy (hS _ _ (Ext.refl w)) ⟨fun _ => Ext.refl w, H⟩
   ·have := ready_mono hj hji
    rw [H.1] at this
    cases this
 | succ fuel ih =>
   intro listed a w hfree hcl hr hy H
   refine ⟨fun h => (by rw [h] at hr; cases hr), fun j hj => ?_⟩
   by_cases hji : j = i
   ·subst hji; exact yieldsIf_wpOpW hi hy (hS _ _ (Ext.refl w)) ⟨fun _ => Ext.refl w, H⟩
   ·have h1 := H.2 j (ready_mono hj hji)
    have hal : ∀ w w', (alone P md ops j = false → Ext w w') → S w w' := fun w w' he => by
     cases hst : calm P md ops i with
     | true => exact hSj hst _ _
     | false => cases h : alone P md ops j with
       | false => exact hS _ _ (he h)
       | true => exact absurd (alone_spec hcl hst h hr hj).symm hji
    obtain ⟨hjun, oj, hoj, hall⟩ := mem_ready.1 hj
    have hnot : ∀ e ∈ oj.after, Region.binds md e = true → e.on ≠ i := fun e he hb heq => by
     have h1 := hall e he hb
     have h0 := (mem_ready.1 hr).1
     rw [heq] at h1
     rcases Nat.lt_or_ge i listed.size with h' | h'
     ·simp [h'] at h0 h1; rw [h0] at h1; cases h1
     ·simp [Array.getElem?_eq_none h'] at h1
    have h2 := wpOpW_putIf hoj (hfree j oj hoj hji hjun hnot) (fun cs b => hsel i oi cs b hi) (fun cs b => hsel j oj cs b hoj) hQ hy h1
    have hfree' : ∀ k ok, ops[k]? = some ok → k ≠ i → (listed.setIfInBounds j true).getD k true = false →
     (∀ e ∈ ok.after, Region.binds md e = true → e.on ≠ i) → oi.apart ops ok = true := fun k ok hk hki hun hno => by
     refine hfree k ok hk hki ?_ hno
     by_cases hjk : j = k
     ·subst hjk; exact hjun
     ·rw [getD_set_ne true hjk] at hun; exact hun
    refine wpOpW_mono (fun a' w' h3 => ⟨h3.2.1, ih (listed.setIfInBounds j true) a' w' hfree' (hcl.set hj) (ready_mono hr (Ne.symm hji))
     (YieldsIf.weaken (fun w'' hw'' => hSt _ _ _ (hal _ _ h3.2.1) hw'') h3.1) ?_⟩) h2
    rw [Array.setIfInBounds_comm _ _ hji]
    exact h3.2.2
theorem wp_region_ext {F : Fence} (hF : Wd F) (hd : ∀ (i : Nat) o, ops[i]? = some o → ∀ c, o.op ≠ .defer c) {id : Nat} {a : Act} {w : World} (hm : P.follows .mixedOrders = true)
 (h : wpAnyE P .any ops Q ops.size (Array.replicate ops.size false) a { w with drawn := w.drawn + 1 }) : (Code.region id ops true).wpIn F 0 P Q a w :=
 wpIn_region_any hm (wpAny_of_ext hF hd _ _ _ _ h)
theorem closed_start (n : Nat) : Closed md ops (Array.replicate n false) := by
 intro k o hk
 simp [Array.getElem?_replicate] at hk
 split at hk <;> simp at hk
end
end Hk
namespace Hk
open Go
set_option linter.unusedVariables false
set_option linter.unusedSimpArgs false
def dOk (n : Nat → Bool) : Option Nat → Bool
 | none => true
 | some t => n t
def cG (ops : Array Oper) : Option (Nat × Bool) → Option (Option (Nat × Bool))
 | none => some none
 | some (j, b) => match (ops[j]?).bind (·.dst) with
   | some s => some (some (s, b))
   | none => none
def cit (P : Program) (n : Nat → Bool) (ops : Array Oper) (o : Oper) : Option It :=
 match cop P o, cG ops o.guard with
 | some ro, some g => if dOk n o.dst then some ⟨g, o.dst, ro⟩ else none
 | _, _ => none
def cits (P : Program) (n : Nat → Bool) (ops : Array Oper) : List Oper → Option (List It)
 | [] => some []
 | o :: r => match cit P n ops o, cits P n ops r with
   | some i, some l => some (i :: l)
   | _, _ => none
def calts (it : Nat → Option It) (al : Nat → Bool) (sub : Nat → Option DT) : List Nat → Option DT
 | [] => some .noalt
 | i :: r => match it i, sub i, calts it al sub r with
   | some x, some t, some o => some (.alt x (al i) t o)
   | _, _, _ => none
def takable (P : Program) (it : Nat → Option It) (ops : Array Oper) (listed : Array Bool) (i : Nat) : Bool :=
 (match it i with
 | some x => valsOnly x.o
 | none => false) && (still ops i || !risky P .any ops i) && Region.free .any ops listed i
def firstN (p : Nat → Bool) : List Nat → Option Nat
 | [] => none
 | i :: r => bif p i then some i else firstN p r
def cdt (P : Program) (it : Nat → Option It) (ops : Array Oper) : Nat → Array Bool → Option DT
 | 0, listed => match Region.ready .any ops listed with
   | [] => some .done
   | _ => none
 | fuel + 1, listed => match Region.ready .any ops listed with
   | [] => some .done
   | i0 :: r0 => match firstN (takable P it ops listed) (i0 :: r0) with
     | some i => match it i, cdt P it ops fuel (listed.setIfInBounds i true) with
       | some x, some t => some (.take x t)
       | _, _ => none
     | none => calts it (alone P .any ops) (fun i => cdt P it ops fuel (listed.setIfInBounds i true)) (i0 :: r0)
def cItN (P : Program) (n : Nat → Bool) (ops : Array Oper) (i : Nat) : Option It := (ops[i]?).bind (cit P n ops)
def noDefer (o : Oper) : Bool :=
 match o.op with
 | .defer _ => false
 | _ => true
def cdraw (P : Program) (n : Nat → Bool) (ops : Array Oper) : Option DT :=
 if Region.noSelect ops && ops.toList.all noDefer then cdt P (cItN P n ops) ops ops.size (Array.replicate ops.size false) else none
section
variable {cx : Cx} {ι : Inj} {st : St} {a : Act} {w : World} {ops : Array Oper} {Q : Exit → Act → World → Prop}
theorem firstN_spec {p : Nat → Bool} {l : List Nat} {i : Nat} (h : firstN p l = some i) : i ∈ l ∧ p i = true := by
 induction l with
 | nil => cases h
 | cons x r ih =>
   unfold firstN at h
   cases hp : p x with
   | true => rw [hp] at h; cases h; exact ⟨by simp, hp⟩
   | false => rw [hp] at h; obtain ⟨h1, h2⟩ := ih h; exact ⟨by simp [h1], h2⟩
theorem cit_spec {P : Program} {n : Nat → Bool} {o : Oper} {it : It} (h : cit P n ops o = some it) : cop P o = some it.o ∧ cG ops o.guard = some it.g ∧ o.dst = it.d ∧ ∀ t, o.dst = some t → n t = true := by
 unfold cit at h
 split at h
 ·rename_i ro g h1 h2
  split at h
  ·rename_i hd
   cases h
   refine ⟨h1, h2, rfl, fun t ht => ?_⟩
   rw [ht] at hd
   simpa [dOk] using hd
  ·cases h
 ·cases h
theorem lk_set {t : List (Nat × AV)} {s : Nat} {x : AV} (h : lk t s = x) (s' : Nat) : lk ((s, x) :: t) s' = lk t s' := by
 simp only [lk]
 by_cases e : s = s'
 ·subst e; simp [h]
 ·rw [beqF e]; rfl
theorem Rel.dup (hr : Rel cx ι st a w) {s : Nat} {x : AV} (h : lk st.tmps s = x) : Rel cx ι ⟨(s, x) :: st.tmps, st.heap⟩ a w :=
 ⟨hr.mem, fun s' => by rw [lk_set h]; exact hr.tm s', hr.sz, hr.df⟩
theorem RA.skip {w : World} {ι : Inj} : RA w ι (.tup []) undef := .tup rfl (fun i x h => by simp at h)
theorem guard_sound (hr : Rel cx ι st a w) {o : Oper} {g : Option (Nat × Bool)} (hg : cG ops o.guard = some g) (hd : ∀ t, o.dst = some t → cx.okb t = true) {k yes : St → Prop} (h : guarded g o.dst st k yes) :
 (Region.wanted o (yielded ops a.tmps) = true ∧ ∃ st', yes st' ∧ Rel cx ι st' a w) ∨
 (Region.wanted o (yielded ops a.tmps) = false ∧ ∃ st', k (st'.put o.dst (.tup [])) ∧ Rel cx ι st' a w) := by
 cases hog : o.guard with
 | none =>
   rw [hog] at hg; cases hg
   exact .inl ⟨by simp [Region.wanted, hog], st, h, hr⟩
 | some jb =>
   obtain ⟨j, b⟩ := jb
   rw [hog] at hg
   unfold cG at hg
   simp only at hg
   split at hg
   ·rename_i s hs
    cases hg
    unfold guarded at h
    simp only at h
    split at h
    ·rename_i c hc
     have htm := hr.tm s
     rw [hc] at htm
     have hv := RA_b htm
     have hy : yielded ops a.tmps j = some c := by
      unfold yielded
      rw [hs]
      have hlt : s < a.tmps.size := by
       rcases Nat.lt_or_ge s a.tmps.size with h' | h'
       ·exact h'
       ·simp [Array.getElem?_eq_none h', undef] at hv
      simp only [Option.bind_some]
      have : a.tmps[s]? = some (.bool c) := by
       simp [hlt] at hv ⊢; exact hv
      rw [this]
     have hw : Region.wanted o (yielded ops a.tmps) = (c == b) := by
      simp only [Region.wanted, hog, hy]
      cases c <;> cases b <;> rfl
     have h := bk_of h
     rw [hw]
     cases c <;> cases b
     ·exact .inl ⟨rfl, _, h, hr.dup hc⟩
     ·exact .inr ⟨rfl, _, h, hr.dup hc⟩
     ·exact .inr ⟨rfl, _, h, hr.dup hc⟩
     ·exact .inl ⟨rfl, _, h, hr.dup hc⟩
    ·rename_i hc
     have htm := hr.tm s
     rw [hc] at htm
     obtain ⟨cs, hv⟩ : ∃ cs, a.tmps.getD s undef = .tuple cs := by
      generalize a.tmps.getD s undef = v at htm
      cases htm
      exact ⟨_, rfl⟩
     have hy : yielded ops a.tmps j = none := by
      unfold yielded
      rw [hs]
      simp only [Option.bind_some]
      rcases Nat.lt_or_ge s a.tmps.size with h' | h'
      ·have : a.tmps[s]? = some (.tuple cs) := by
        simp [h'] at hv ⊢; exact hv
       rw [this]
      ·rw [Array.getElem?_eq_none h']
     refine .inr ⟨?_, _, h, hr⟩
     simp only [Region.wanted, hog, hy]
     rfl
    ·exact h.elim
   ·cases hg
theorem vops_sound (hF : Knows cx) {K : St → Prop} (hK : ∀ {a w}, Kc cx K a w → Q .normal a w) : ∀ (l : List Oper) (its : List It), cits cx.P cx.okb ops l = some its →
 ∀ {ι : Inj} {st : St} {a : Act} {w : World}, Rel cx ι st a w → vops cx.E its st K → wpListW cx.P ops Q l a w
 | [], its, hc, ι, st, a, w, hr, h => by
   cases hc; exact hK ⟨ι, st, hr, h⟩
 | o :: r, its, hc, ι, st, a, w, hr, h => by
   unfold cits at hc
   split at hc
   ·rename_i it l hit hl
    cases hc
    obtain ⟨h1, h2, h3, h4⟩ := cit_spec hit
    obtain ⟨g, d, ro⟩ := it
    subst h3
    have ih := fun {ι st a w} => vops_sound hF hK r l hl (ι := ι) (st := st) (a := a) (w := w)
    unfold vops at h
    unfold wpListW
    rcases guard_sound hr h2 h4 h with ⟨hw, st', h, hr'⟩ | ⟨hw, st', h, hr'⟩
    ·rw [hw, if_pos rfl]
     refine opW_mono ?_ (vro_sound hF hr' h1 h4 h)
     rintro a' w' ⟨⟨ι', st'', hr'', hk⟩, _⟩
     exact ih hr'' hk
    ·rw [hw, if_neg (by simp)]
     exact ih (hr'.put h4 RA.skip) h
   ·cases hc
theorem Rel.heap_eq {w' : World} (hr : Rel cx ι st a w) (hh : w'.heap = w.heap) (ho : w'.os = w.os ∧ w'.output = w.output) : Rel cx ι st a w' := by
 have hL : Later ι.M w w' ι.M := ⟨fun c o _ h => by rw [hh]; exact h, fun c h => .inl h, by rw [hh]; exact Nat.le_refl _⟩
 exact ⟨hr.mem.same hh ho, fun s => (hr.tm s).later hL (fun _ _ h => h), hr.sz, hr.df⟩
theorem vdt_sound (hF : Knows cx) {K : St → Prop} (hK : ∀ {a w}, Kc cx K a w → Q .normal a w) (hQ : ∀ c a w a' w', Q (.panic c) a w → Q (.panic c) a' w') (hsel : Region.noSelect ops = true) :
 ∀ (fuel : Nat) (listed : Array Bool) (t : DT), cdt cx.P (cItN cx.P cx.okb ops) ops fuel listed = some t → Closed .any ops listed →
 ∀ {ι : Inj} {st : St} {a : Act} {w : World}, Rel cx ι st a w → vdt cx.E t st K → wpAnyE cx.P .any ops Q fuel listed a w := by
 intro fuel
 induction fuel with
 | zero =>
   intro listed t hc _ ι st a w hr h
   unfold cdt at hc
   split at hc
   ·rename_i hready; cases hc; exact ⟨hready, hK ⟨ι, st, hr, h⟩⟩
   ·cases hc
 | succ fuel ih =>
   intro listed t hc hcl ι st a w hr h
   unfold cdt at hc
   split at hc
   ·rename_i hready
    cases hc
    exact ⟨fun _ => hK ⟨ι, st, hr, h⟩, by rw [hready]; simp⟩
   ·rename_i i0 r0 hready
    split at hc
    ·rename_i i hfirst
     obtain ⟨hmem, htak⟩ := firstN_spec hfirst
     rw [← hready] at hmem
     split at hc
     ·rename_i it t' hit ht'
      cases hc
      unfold cItN at hit
      obtain ⟨oi, hoi, hcit⟩ := Option.bind_eq_some_iff.1 hit
      obtain ⟨h1, h2, h3, h4⟩ := cit_spec hcit
      obtain ⟨g, d, ro⟩ := it
      subst h3
      have hfree : Region.free .any ops listed i = true := by
       unfold takable at htak; simp only [Bool.and_eq_true] at htak; exact htak.2
      have hcalm : still ops i = false → calm cx.P .any ops i = false := fun hst => by
       unfold takable at htak
       simp only [Bool.and_eq_true, hst, Bool.false_or, Bool.not_eq_true'] at htak
       unfold calm
       rw [hst, htak.1.2]; rfl
      have done2 : ∀ (v : Value), still ops i = true → YieldsIf cx.P ops (fun _ => True) oi v a → wpAnyE cx.P .any ops Q fuel (listed.setIfInBounds i true) (a.put oi.dst v) w →
       wpAnyE cx.P .any ops Q (fuel + 1) listed a w := fun v hst hy hn =>
       wpAnyE_first hoi (Region.noSelect_spec hsel) (fun c a w => hQ _ _ _ _ _) (S := fun _ _ => True) (fun _ _ _ => trivial) (fun _ _ _ _ _ => trivial) (fun _ _ _ => trivial) fuel listed a w (Region.free_spec hoi hfree) hcl hmem hy hn
      have done : ∀ (v : Value), calm cx.P .any ops i = false → YieldsIf cx.P ops (Ext w) oi v a → wpAnyE cx.P .any ops Q fuel (listed.setIfInBounds i true) (a.put oi.dst v) w →
       wpAnyE cx.P .any ops Q (fuel + 1) listed a w := fun v hst hy hn =>
       wpAnyE_first hoi (Region.noSelect_spec hsel) (fun c a w => hQ _ _ _ _ _) (S := Ext) (fun _ _ h => h) (fun _ _ _ h1 h2 => h1.trans h2) (fun h => by rw [hst] at h; cases h) fuel listed a w (Region.free_spec hoi hfree) hcl hmem hy hn
      unfold vdt at h
      rcases guard_sound hr h2 h4 h with ⟨hw, st', h, hr'⟩ | ⟨hw, st', h, hr'⟩
      ·cases hst : still ops i with
       | true =>
         have hst2 : stillOp oi = true := by unfold still at hst; rw [hoi] at hst; exact hst
         obtain ⟨av, v, hk, hra, hrun⟩ := vval_still hr'.mem.hr.gl hr'.tm hst2 h1 h
         exact done2 v hst (.inl ⟨hw, fun w _ => hrun w⟩) (ih _ _ ht' (hcl.set hmem) (hr'.put h4 hra) hk)
       | false =>
         have hst := hcalm hst
         obtain ⟨av, v, hk, hra, hrun⟩ := vval_sound hr'.mem.hr.gl hr'.tm hr'.mem.hr h1 h
         exact done v hst (.inl ⟨hw, hrun⟩) (ih _ _ ht' (hcl.set hmem) (hr'.put h4 hra) hk)
      ·cases hst : still ops i with
       | true => exact done2 undef hst (.inr ⟨hw, rfl⟩) (ih _ _ ht' (hcl.set hmem) (hr'.put h4 RA.skip) h)
       | false => exact done undef (hcalm hst) (.inr ⟨hw, rfl⟩) (ih _ _ ht' (hcl.set hmem) (hr'.put h4 RA.skip) h)
     ·cases hc
    ·
     refine ⟨fun h0 => (by rw [hready] at h0; cases h0), ?_⟩
     have main : ∀ (l : List Nat) (t : DT), calts (cItN cx.P cx.okb ops) (alone cx.P .any ops) (fun i => cdt cx.P (cItN cx.P cx.okb ops) ops fuel (listed.setIfInBounds i true)) l = some t →
      vdt cx.E t st K → ∀ i ∈ l, i ∈ Region.ready .any ops listed →
      wpOpW cx.P ops Q i (fun a' w' => (alone cx.P .any ops i = false → Ext w w') ∧ wpAnyE cx.P .any ops Q fuel (listed.setIfInBounds i true) a' w') a w := by
      intro l
      induction l with
      | nil => intro t _ _ i hi; cases hi
      | cons x r ihl =>
        intro t hc h i hi hir
        unfold calts at hc
        split at hc
        ·rename_i it t' o hit ht' ho
         cases hc
         obtain ⟨g, d, ro⟩ := it
         unfold vdt at h
         obtain ⟨h, hother⟩ := h
         rcases List.mem_cons.1 hi with rfl | hi
         ·unfold cItN at hit
          obtain ⟨oi, hoi, hcit⟩ := Option.bind_eq_some_iff.1 hit
          obtain ⟨h1, h2, h3, h4⟩ := cit_spec hcit
          subst h3
          unfold wpOpW
          simp only [hoi]
          rcases guard_sound hr h2 h4 h with ⟨hw, st', h, hr'⟩ | ⟨hw, st', h, hr'⟩
          ·rw [hw, if_pos rfl]
           refine opW_mono ?_ (vro_sound hF hr' h1 h4 h)
           rintro a' w' ⟨⟨ι', st'', hr'', hk⟩, hext⟩
           refine ⟨fun hal => hext (by rw [hal]; rfl), ih _ _ ht' (hcl.set hir) hr'' hk⟩
          ·rw [hw, if_neg (by simp)]
           exact ⟨fun _ => Ext.refl w, ih _ _ ht' (hcl.set hir) (hr'.put h4 RA.skip) h⟩
         ·exact ihl o ho hother i hi hir
        ·cases hc
     intro i hi
     exact main (i0 :: r0) t hc h i (by rw [← hready]; exact hi) hi
theorem draw_sound {F : Fence} (hW : Wd F) (hF : Knows cx) (hm : cx.P.follows .mixedOrders = true) {K : St → Prop} (hK : ∀ {a w}, Kc cx K a w → Q .normal a w) (hQ : ∀ c a w a' w', Q (.panic c) a w → Q (.panic c) a' w') {t : DT}
 (hc : cdraw cx.P cx.okb ops = some t) (hr : Rel cx ι st a w) (h : vdt cx.E t st K) {id : Nat} : (Code.region id ops true).wpIn F 0 cx.P Q a w := by
 unfold cdraw at hc
 split at hc
 ·rename_i hsel
  simp only [Bool.and_eq_true] at hsel
  have hd : ∀ (i : Nat) o, ops[i]? = some o → ∀ c, o.op ≠ .defer c := fun i o ho c e => by
   have := List.all_eq_true.1 hsel.2 o (by simpa using Array.mem_of_getElem? ho)
   simp [noDefer, e] at this
  exact wp_region_ext hW hd hm (vdt_sound hF hK hQ hsel.1 _ _ _ hc (closed_start _) (hr.heap_eq (w' := { w with drawn := w.drawn + 1 }) rfl ⟨rfl, rfl⟩) h)
 ·cases hc
theorem cits_nodefer {P : Program} {n : Nat → Bool} : ∀ {l : List Oper} {its : List It}, cits P n ops l = some its → ∀ o ∈ l, ∀ c, o.op ≠ .defer c
 | [], _, _, o, ho, _ => by cases ho
 | x :: r, its, h, o, ho, c => by
   unfold cits at h
   split at h
   ·rename_i it l hit hl
    rcases List.mem_cons.1 ho with rfl | ho
    ·intro e
     obtain ⟨h1, _⟩ := cit_spec hit
     unfold cop at h1
     rw [e] at h1
     cases h1
    ·exact cits_nodefer hl o ho c
   ·cases h
end
end Hk
namespace Hk
open Go
set_option linter.unusedVariables false
set_option linter.unusedSimpArgs false
section
variable {cx : Cx} {ι : Inj} {st st' : St} {a : Act} {w : World}
theorem liveB_iff {h : List Blk} {b : Nat} : liveB h b = true ↔ nth .dead h b ≠ .dead := by
 unfold liveB
 cases nth .dead h b <;> simp
theorem liveB_false {h : List Blk} {b : Nat} : liveB h b = false ↔ nth .dead h b = .dead := by
 unfold liveB
 cases nth .dead h b <;> simp
def Inj.cut (ι : Inj) (h : List Blk) : Inj := { ι with m := fun b => if liveB h b then ι b else none }
theorem Inj.cut_some {h : List Blk} {b : Nat} {p : Nat × Nat × Nat} (hb : (ι.cut h) b = some p) : ι b = some p ∧ liveB h b = true := by
 simp only [Inj.cut] at hb
 split at hb
 ·rename_i hl; exact ⟨hb, hl⟩
 ·cases hb
theorem Inj.cut_live {h : List Blk} {b : Nat} (hl : liveB h b = true) : (ι.cut h) b = ι b := by
 simp only [Inj.cut, hl, if_true]
theorem Inj.cut_M {h : List Blk} {c : Nat} (hc : (ι.cut h).M c) : ι.M c := by
 rcases hc with ⟨b, o, s, hb⟩ | hc
 ·exact .inl ⟨b, o, s, (Inj.cut_some hb).1⟩
 ·exact .inr hc
theorem HLe.get {h : List Blk} {fz kp : Nat → Bool} : ∀ {xs ys : List Blk}, HLe h fz kp xs ys → ∀ b, BLe h fz kp (nth .dead xs b) (nth .dead ys b)
 | _, _, .nil l, b => by rw [nth_lt _ [] b (by simp)]; exact .dead _
 | _, _, .cons h0 h1, b => by
   cases b with
   | zero => exact h0
   | succ b => exact h1.get b
theorem TLe.get {h : List Blk} {fz kp : Nat → Bool} {t : List (Nat × AV)} : ∀ {t' : List (Nat × AV)}, TLe h fz kp t t' → ∀ s, lk t' s = .undef ∨ KLe h fz kp (lk t s) (lk t' s)
 | _, .nil, s => .inl rfl
 | _, .cons (s := s0) h0 h1, s => by
   simp only [lk]
   by_cases e : s0 = s
   ·subst e; simp; exact .inr h0
   ·rw [beqF e]; exact h1.get s
theorem cut_hfz {h h' : List Blk} (hr : HRel ι h w) : ∀ b, (!liveB h' b) = true → ∀ c o s, ι b = some (c, o, s) → ¬ (ι.cut h').M c := by
 intro b hb c o s hbc hM
 rcases hM with ⟨b', o', s', hb'⟩ | hX
 ·obtain ⟨h1, h2⟩ := Inj.cut_some hb'
  have := hr.inj b b' _ _ _ _ _ hbc h1
  subst this
  rw [h2] at hb; cases hb
 ·exact hr.dis _ _ _ _ hbc hX
theorem cut_hkp {h' : List Blk} : ∀ b, liveB h' b = true → ∀ p, ι b = some p → (ι.cut h') b = some p := fun b hb p hp => by rw [Inj.cut_live hb]; exact hp
theorem BLe.sound {h h' : List Blk} (hr : HRel ι h w) {b : Nat} (hb : BLe h (fun b => !liveB h' b) (fun b => liveB h' b) (nth .dead h b) (nth .dead h' b)) :
 RB w (ι.cut h') ((ι.cut h') b) (nth .dead h' b) := by
 have h0 := hr.blk b
 have sound : ∀ {x y : AV} {v : Value}, RA w ι x v → KLe h (fun b => !liveB h' b) (fun b => liveB h' b) x y → RA w (ι.cut h') y v := fun hx hk =>
  KLe.sound hr (cut_hfz hr) cut_hkp (fun c => Inj.cut_M) hx hk
 have hL : Later ι.M w w (ι.cut h').M := ⟨fun _ _ _ h => h, fun c hc => .inl (Inj.cut_M hc), Nat.le_refl _⟩
 generalize hx : nth .dead h b = x at hb h0
 generalize hy : nth .dead h' b = y at hb
 cases hb with
 | dead =>
   show _ = none
   have : liveB h' b = false := liveB_false.2 hy
   simp [Inj.cut, this]
 | mx hl =>
   have : liveB h' b = true := liveB_iff.2 (by rw [hy]; simp)
   rw [Inj.cut_live this]
   obtain ⟨c, o, s, cs, ty, fz, h1, h2, h3, h4, h5, h6⟩ := h0
   obtain ⟨g1, g2⟩ := hl.get
   refine ⟨c, o, s, cs, ty, fz, h1, h2, h3, h4, by rw [← g1]; exact h5, fun j y hy => ?_⟩
   obtain ⟨x, hx, hk⟩ := g2 j y hy
   obtain ⟨v, v1, v2, v3⟩ := h6 j x hx
   exact ⟨v, v1, v2, sound v3 hk⟩
 | pr hl =>
   have : liveB h' b = true := liveB_iff.2 (by rw [hy]; simp)
   rw [Inj.cut_live this]
   have hlen := hl.len
   rcases h0 with ⟨h1, h2⟩ | ⟨c, o, s, cs, ty, fz, h1, h2, h3, h4, h5, h6, h7⟩
   ·refine .inl ⟨h1, ?_⟩
    subst h2
    exact List.eq_nil_of_length_eq_zero (by simpa using hlen.symm)
   ·refine .inr ⟨c, o, s, cs, ty, fz, h1, h2, h3, h4, by rw [← hlen]; exact h5, fun i row hi => ?_, fun i row j x hi hx => ?_⟩
    ·obtain ⟨r0, hr0, hle⟩ := hl.get i row hi
     rw [← hle.len]; exact h6 i r0 hr0
    ·obtain ⟨r0, hr0, hle⟩ := hl.get i row hi
     obtain ⟨x0, hx0, hlx⟩ := hle.get j x hx
     obtain ⟨o1, v, hv, hp⟩ := h7 i r0 j x0 hr0 hx0
     exact ⟨hlx.one o1, v, hv, (hlx.sound hp).later hL⟩
 | mp =>
   have : liveB h' b = true := liveB_iff.2 (by rw [hy]; simp)
   rw [Inj.cut_live this]
   obtain ⟨c, o, s, h1, h2⟩ := h0
   exact ⟨c, o, s, h1, h2.later hL rfl⟩
 | ax ha hl =>
   have : liveB h' b = true := liveB_iff.2 (by rw [hy]; simp)
   rw [Inj.cut_live this]
   obtain ⟨hn, c, o, s, cs, ty, fz, h1, h2, h3, h4, h5, h6⟩ := h0
   obtain ⟨g1, g2⟩ := hl.get
   have hal := ha.len
   refine ⟨by rw [← hal]; exact hn, c, o, s, cs, ty, fz, h1, h2, h3, h4, ?_, fun j y hy => ?_⟩
   ·simp only [List.length_append, List.length_map] at h5 ⊢
    rw [← hal, ← g1]; exact h5
   ·rw [List.getElem?_append] at hy
    split at hy
    ·rename_i hlt
     rw [List.getElem?_map] at hy
     obtain ⟨y0, hy0, rfl⟩ := Option.map_eq_some_iff.1 hy
     obtain ⟨x, hx, hk⟩ := ha.get j y0 hy0
     obtain ⟨v, v1, v2, v3⟩ := h6 j (.p x) (by rw [List.getElem?_append_left (by simpa [hal] using hlt), List.getElem?_map, hx]; rfl)
     exact ⟨v, v1, v2, sound v3 (.p hk)⟩
    ·rename_i hge
     obtain ⟨x, hx, hk⟩ := g2 _ y hy
     obtain ⟨v, v1, v2, v3⟩ := h6 j x (by rw [List.getElem?_append_right (by simpa [hal] using hge), List.length_map, hal]; simpa using hx)
     exact ⟨v, v1, v2, sound v3 hk⟩
 | gh =>
   have : liveB h' b = true := liveB_iff.2 (by rw [hy]; simp)
   rw [Inj.cut_live this]
   exact h0
theorem fixOk_spec {fx : Nat → Bool} {h : List Blk} : ∀ {k : Nat}, fixOk fx h k = true → ∀ b, b < k → fx b = true → liveB h b = true
 | 0, _, b, hb, _ => by omega
 | k + 1, hf, b, hb, hx => by
   simp only [fixOk, Bool.and_eq_true, Bool.or_eq_true, Bool.not_eq_true'] at hf
   by_cases e : b = k
   ·subst e
    rcases hf.1 with h | h
    ·rw [h] at hx; cases hx
    ·unfold liveB; exact h
   ·exact fixOk_spec hf.2 b (by omega) hx
theorem cut_later {h' : List Blk} : Later ι.M w w (ι.cut h').M := ⟨fun _ _ _ h => h, fun c hc => .inl (Inj.cut_M hc), Nat.le_refl _⟩
theorem HRel.cut {h h' : List Blk} (hr : HRel ι h w) (hle : HLe h (fun b => !liveB h' b) (fun b => liveB h' b) h h') : HRel (ι.cut h') h' w :=
 ⟨hr.gl.later cut_later, fun b => BLe.sound hr (hle.get b), fun b b' c o s o' s' h1 h2 => hr.inj b b' c o s o' s' (Inj.cut_some h1).1 (Inj.cut_some h2).1,
  fun b c o s h1 => hr.dis b c o s (Inj.cut_some h1).1⟩
theorem BLe.of_gh {h : List Blk} {fz kp : Nat → Bool} {x : Blk} {l : Nat} {r : Option (List (List PV))} (hb : BLe h fz kp x (.gh l r)) : x = .gh l r := by
 generalize hy : Blk.gh l r = y at hb
 cases hb <;> first | (cases hy; done) | rfl
theorem Mem.cut {h h' : List Blk} (hm : Mem cx ι h w) (hle : HLe h (fun b => !liveB h' b) (fun b => liveB h' b) h h') (hk : cx.E.k ≤ h'.length) (hf : fixOk cx.E.fx h' cx.E.k = true) : Mem cx (ι.cut h') h' w :=
 hm.step (hm.hr.cut hle) (fun _ _ _ h => h) (fun c ⟨b, o, s, hb⟩ => .inl ⟨b, o, s, (Inj.cut_some hb).1⟩) (Nat.le_refl _) ⟨rfl, rfl⟩ rfl rfl rfl rfl
  (fun b hb => by rw [Inj.cut_live (fixOk_spec hf b (cx.fk b hb) hb)]) hk (fun l r e => by have := hle.get 0; rw [e] at this; exact this.of_gh)
theorem Rel.mono' (hr : Rel cx ι st a w) (h : StLe cx.E st st') : Rel cx (ι.cut st'.heap) st' a w := by
 obtain ⟨⟨hk, hf⟩, ht, hh⟩ := h
 refine ⟨hr.mem.cut hh (by simpa using hk) hf, fun s => ?_, hr.sz, hr.df⟩
 rcases ht.get s with h | h
 ·rw [h]; exact .und _
 ·exact KLe.sound hr.mem.hr (cut_hfz hr.mem.hr) cut_hkp (fun c => Inj.cut_M) (hr.tm s) h
theorem Rel.mono (hr : Rel cx ι st a w) (h : StLe cx.E st st') : ∃ ι', Rel cx ι' st' a w := ⟨_, hr.mono' h⟩
theorem lk_trim (live : List Nat) (t : List (Nat × AV)) (s : Nat) : lk (live.map fun s => (s, lk t s)) s = .undef ∨ lk (live.map fun s => (s, lk t s)) s = lk t s := by
 induction live with
 | nil => exact .inl rfl
 | cons x r ih =>
   simp only [List.map_cons, lk]
   by_cases e : x = s
   ·subst e; simp
   ·rw [beqF e]; exact ih
theorem Rel.trim (hr : Rel cx ι st a w) (live : List Nat) : Rel cx ι (Hk.trim live st) a w :=
 ⟨hr.mem, fun s => by
  rcases lk_trim live st.tmps s with h | h
  ·simp only [Hk.trim, h]; exact .und _
  ·simp only [Hk.trim, h]; exact hr.tm s, hr.sz, hr.df⟩
theorem lk_setT (t : List (Nat × AV)) (n : Nat) (x : AV) (s : Nat) : lk (setT t n x) s = lk t s ∨ (s = n ∧ lk (setT t n x) s = x) := by
 induction t with
 | nil => exact .inl rfl
 | cons p r ih =>
   obtain ⟨k, v⟩ := p
   simp only [setT]
   by_cases e : k = n
   ·subst e
    simp only [Nat.beq_refl, cond_true, lk]
    by_cases e2 : k = s
    ·subst e2; simp
    ·rw [beqF e2]; exact .inl rfl
   ·rw [beqF e]
    simp only [cond_false, lk]
    by_cases e2 : k = s
    ·subst e2; simp
    ·rw [beqF e2]; exact ih
theorem matV_cases (n wd : Nat) (x : AV) : (∃ w0, x = .p (.isl w0 [] (some 0)) ∧ matV n wd x = (.sl n wd 0 0 none, [.pr wd []])) ∨ matV n wd x = (x, []) := by
 unfold matV
 split
 ·rename_i w0; exact .inl ⟨w0, rfl, rfl⟩
 ·exact .inr rfl
theorem RA.mat {w0 n wd : Nat} {v : Value} (h : RA w ι (.p (.isl w0 [] (some 0))) v) : RA w ι (.sl n wd 0 0 none) v := by
 obtain ⟨oa, c0, hv, hc, hcap, _⟩ := RP_isl (RA_p h)
 have hc0 : c0 = 0 := hcap 0 rfl
 subst hc0
 rw [hv]
 exact .slz (fun k hk => by cases hk)
theorem Mem.more {h : List Blk} (hm : Mem cx ι h w) (wd : Nat) : Mem cx ι (h ++ [.pr wd []]) w := by
 refine hm.step ⟨hm.hr.gl, fun b => ?_, hm.hr.inj, hm.hr.dis⟩ (fun _ _ _ h => h) (fun c h => .inl h) (Nat.le_refl _) ⟨rfl, rfl⟩ rfl rfl rfl rfl (fun _ _ => rfl) (by have := hm.kl; simp; omega) (fun l r e => ?_)
 ·rw [nth_append_new]
  split
  ·rename_i e
   have := hm.hr.blk b
   rw [nth_lt _ _ _ (by omega)] at this
   exact .inl ⟨this, rfl⟩
  ·exact hm.hr.blk b
 ·rw [nth_append_new] at e
  split at e
  ·cases e
  ·exact e
theorem Rel.mat1 (hr : Rel cx ι st a w) (m : MatAt) : Rel cx ι (st.mat1 m) a w := by
 cases m with
 | slot s wd =>
   simp only [St.mat1]
   rcases matV_cases st.heap.length wd (lk st.tmps s) with ⟨w0, hx, he⟩ | he
   ·rw [he]
    refine ⟨hr.mem.more wd, fun s' => ?_, hr.sz, hr.df⟩
    rcases lk_setT st.tmps s (.sl st.heap.length wd 0 0 none) s' with h | ⟨h1, h2⟩
    ·simp only [h]; exact hr.tm s'
    ·subst h1
     simp only [h2]
     have := hr.tm s'
     rw [hx] at this
     exact this.mat
   ·rw [he]
    refine ⟨by simpa using hr.mem, fun s' => ?_, hr.sz, hr.df⟩
    rcases lk_setT st.tmps s (lk st.tmps s) s' with h | ⟨h1, h2⟩
    ·simp only [h]; exact hr.tm s'
    ·subst h1
     simp only [h2]; exact hr.tm s'
 | cell b j wd =>
   simp only [St.mat1]
   split
   ·rename_i cells hb
    have hlt : b < st.heap.length := hr.mem.hr.blen (by rw [hb]; simp)
    have turn : ∀ x, (∀ v, RA w ι (nth .undef cells j) v → RA w ι x v) → Mem cx ι (setNth st.heap b (.mx (setNth cells j x))) w := by
     intro x hx
     refine hr.mem.step ⟨hr.mem.hr.gl, fun b' => ?_, hr.mem.hr.inj, hr.mem.hr.dis⟩ (fun _ _ _ h => h) (fun c h => .inl h) (Nat.le_refl _) ⟨rfl, rfl⟩ rfl rfl rfl rfl (fun _ _ => rfl) (by rw [setNth_eq]; simpa using hr.mem.kl) (fun l r e => by
      rw [nth_setNth _ _ _ _ _ hlt] at e
      split at e
      ·cases e
      ·exact e)
     rw [nth_setNth _ _ _ _ _ hlt]
     have h0 := hr.mem.hr.blk b'
     split
     ·rename_i e
      subst e
      rw [hb] at h0
      obtain ⟨c, o, s, cs, ty, fz, h1, h2, h3, h4, h5, h6⟩ := h0
      refine ⟨c, o, s, cs, ty, fz, h1, h2, h3, h4, by rw [setNth_eq]; simpa using h5, fun i y hy => ?_⟩
      rw [setNth_eq, List.getElem?_set] at hy
      split at hy
      ·rename_i e
       subst e
       split at hy
       ·rename_i hlt2
        cases hy
        obtain ⟨v, v1, v2, v3⟩ := h6 j _ (List.getElem?_eq_getElem hlt2)
        refine ⟨v, v1, v2, hx v ?_⟩
        rw [nth_eq, List.getElem?_eq_getElem hlt2]; exact v3
       ·cases hy
      ·exact h6 i y hy
     ·exact h0
    rcases matV_cases st.heap.length wd (nth .undef cells j) with ⟨w0, hx, he⟩ | he
    ·rw [he]
     have hm := (turn (.sl st.heap.length wd 0 0 none) (fun v hv => by rw [hx] at hv; exact hv.mat)).more wd
     exact ⟨hm, hr.tm, hr.sz, hr.df⟩
    ·rw [he]
     refine ⟨by simpa using turn (nth .undef cells j) (fun v hv => hv), hr.tm, hr.sz, hr.df⟩
   ·rename_i n arr cells hb
    cases hnj : Nat.ble n j with
    | false => exact hr
    | true =>
    simp only [cond_true]
    have hnj : n ≤ j := Nat.le_of_ble_eq_true hnj
    have hlt : b < st.heap.length := hr.mem.hr.blen (by rw [hb]; simp)
    have turn : ∀ x, (∀ v, RA w ι (nth .undef cells (j - n)) v → RA w ι x v) → Mem cx ι (setNth st.heap b (.ax n arr (setNth cells (j - n) x))) w := by
     intro x hx
     refine hr.mem.step ⟨hr.mem.hr.gl, fun b' => ?_, hr.mem.hr.inj, hr.mem.hr.dis⟩ (fun _ _ _ h => h) (fun c h => .inl h) (Nat.le_refl _) ⟨rfl, rfl⟩ rfl rfl rfl rfl (fun _ _ => rfl) (by rw [setNth_eq]; simpa using hr.mem.kl) (fun l r e => by
      rw [nth_setNth _ _ _ _ _ hlt] at e
      split at e
      ·cases e
      ·exact e)
     rw [nth_setNth _ _ _ _ _ hlt]
     have h0 := hr.mem.hr.blk b'
     split
     ·rename_i e
      subst e
      rw [hb] at h0
      obtain ⟨hn, c, o, s, cs, ty, fz, h1, h2, h3, h4, h5, h6⟩ := h0
      refine ⟨hn, c, o, s, cs, ty, fz, h1, h2, h3, h4, by rw [setNth_eq]; simpa using h5, fun i y hy => ?_⟩
      rw [setNth_eq] at hy
      have hal : (arr.map AV.p).length = n := by simpa using hn
      by_cases hi : i < n
      ·rw [List.getElem?_append_left (by omega)] at hy
       exact h6 i y (by rw [List.getElem?_append_left (by omega)]; exact hy)
      ·rw [List.getElem?_append_right (by omega), hal, List.getElem?_set] at hy
       split at hy
       ·rename_i e
        split at hy
        ·rename_i hlt2
         cases hy
         obtain ⟨v, v1, v2, v3⟩ := h6 i (cells[j - n]) (by rw [List.getElem?_append_right (by omega), hal, ← e]; exact List.getElem?_eq_getElem hlt2)
         refine ⟨v, v1, v2, hx v ?_⟩
         rw [nth_eq, List.getElem?_eq_getElem hlt2]; exact v3
        ·cases hy
       ·exact h6 i y (by rw [List.getElem?_append_right (by omega), hal]; exact hy)
     ·exact h0
    rcases matV_cases st.heap.length wd (nth .undef cells (j - n)) with ⟨w0, hx, he⟩ | he
    ·rw [he]
     have hm := (turn (.sl st.heap.length wd 0 0 none) (fun v hv => by rw [hx] at hv; exact hv.mat)).more wd
     exact ⟨hm, hr.tm, hr.sz, hr.df⟩
    ·rw [he]
     refine ⟨by simpa using turn (nth .undef cells (j - n)) (fun v hv => hv), hr.tm, hr.sz, hr.df⟩
   ·exact hr
theorem Rel.mat (hr : Rel cx ι st a w) (ms : List MatAt) : Rel cx ι (st.mat ms) a w := by
 induction ms generalizing st with
 | nil => exact hr
 | cons m r ih => exact ih (hr.mat1 m)
theorem permOk1_spec {fx : Nat → Bool} {ids : List Nat} : ∀ {n : Nat}, permOk1 fx ids n = true → ∀ k, k < n → nth 0 ids (nth 0 ids k) = k ∧ nth 0 ids k < ids.length ∧ ((fx k = true ∨ k = 0) → nth 0 ids k = k)
 | 0, _, k, hk => by omega
 | n + 1, h, k, hk => by
   simp only [permOk1, Bool.and_eq_true] at h
   by_cases e : k = n
   ·subst e
    obtain ⟨⟨⟨h1, h2⟩, h3⟩, _⟩ := h
    refine ⟨Nat.eq_of_beq_eq_true h1, Nat.le_of_ble_eq_true h2, fun hf => ?_⟩
    have : (fx k || Nat.beq k 0) = true := by
     rcases hf with hf | rfl
     ·rw [hf]; rfl
     ·simp
    rw [this] at h3
    exact Nat.eq_of_beq_eq_true (by simpa using h3)
   ·exact permOk1_spec h.2 k (by omega)
theorem renT_lk (ids : List Nat) (n : Nat) : ∀ (t : List (Nat × AV)) (s : Nat), lk (renT ids n t) s = AV.ren ids n (lk t s)
 | [], s => rfl
 | (k, x) :: r, s => by
   simp only [renT, lk]
   cases Nat.beq k s
   ·exact renT_lk ids n r s
   ·rfl
theorem RB.ren {w : World} {ι ι' : Inj} {ids : List Nat} {n : Nat} (hm : ∀ b p, ι b = some p → ι' (renB ids n b) = some p) (hM : ι'.M = ι.M) (hG : ι'.G = ι.G) {p : Option (Nat × Nat × Nat)} {x : Blk} (h : RB w ι p x) : RB w ι' p (x.ren ids n) := by
 have hra : ∀ {x v}, RA w ι x v → RA w ι' (AV.ren ids n x) v := fun h => h.ren hm (fun c hc => by rw [← hM]; exact hc)
 cases x with
 | dead => exact h
 | mx cells =>
   obtain ⟨c, o, s, cs, ty, fz, h1, h2, h3, h4, h5, h6⟩ := h
   refine ⟨c, o, s, cs, ty, fz, h1, h2, h3, h4, by rw [renL_len]; exact h5, fun j y hy => ?_⟩
   rw [renL_get] at hy
   obtain ⟨z, hz, rfl⟩ := Option.map_eq_some_iff.1 hy
   obtain ⟨v, v1, v2, v3⟩ := h6 j z hz
   exact ⟨v, v1, v2, hra v3⟩
 | pr wd rows =>
   rcases h with h | ⟨c, o, s, cs, ty, fz, h1, h2, h3, h4, h5, h6, h7⟩
   ·exact .inl h
   ·refine .inr ⟨c, o, s, cs, ty, fz, h1, h2, h3, h4, h5, h6, fun i row j y hr hy => ?_⟩
    obtain ⟨a, v, b, d⟩ := h7 i row j y hr hy
    exact ⟨a, v, b, by rw [hM]; exact d⟩
 | mp ag ks ents =>
   obtain ⟨c, o, s, h1, es, h2, h3, h4⟩ := h
   refine ⟨c, o, s, h1, es, h2, h3, fun i k v hi => ?_⟩
   rw [hM]; exact h4 i k v hi
 | gh l r => exact ⟨h.1, by rw [hG]; exact h.2⟩
 | ax m arr cells =>
   obtain ⟨hn, c, o, s, cs, ty, fz, h1, h2, h3, h4, h5, h6⟩ := h
   refine ⟨hn, c, o, s, cs, ty, fz, h1, h2, h3, h4, by simpa [renL_len] using h5, fun j y hy => ?_⟩
   have e : arr.map AV.p ++ AV.renL ids n cells = AV.renL ids n (arr.map AV.p ++ cells) := by rw [renL_app, renL_ps]
   rw [e, renL_get] at hy
   obtain ⟨z, hz, rfl⟩ := Option.map_eq_some_iff.1 hy
   obtain ⟨v, v1, v2, v3⟩ := h6 j z hz
   exact ⟨v, v1, v2, hra v3⟩
theorem getIds_len (g : List Blk) : ∀ ids : List Nat, (getIds g ids).length = ids.length
 | [] => rfl
 | x :: r => by simp [getIds, getIds_len g r]
theorem Rel.perm (hr : Rel cx ι st a w) {ids : List Nat} (h : permOk cx.E.fx st.heap.length ids = true) : ∃ ι', Rel cx ι' (st.perm ids) a w := by
 unfold permOk at h
 simp only [Bool.and_eq_true] at h
 obtain ⟨hl, h⟩ := h
 have hl : ids.length = st.heap.length := Nat.eq_of_beq_eq_true hl
 have hs := fun k hk => permOk1_spec h k hk
 let m' : Nat → Option (Nat × Nat × Nat) := fun b => if b < ids.length then ι (nth 0 ids b) else ι b
 let ι' : Inj := { ι with m := m' }
 have hm1 : ∀ b, b < ids.length → ι' b = ι (nth 0 ids b) := fun b hb => if_pos hb
 have hm2 : ∀ b, ¬ b < ids.length → ι' b = ι b := fun b hb => if_neg hb
 have hlt : ∀ b p, ι b = some p → b < ids.length := fun b p hb => by
  rcases Nat.lt_or_ge b ids.length with h1 | h1
  ·exact h1
  ·have := hr.mem.hr.blk b
   rw [nth_lt _ _ _ (by omega)] at this
   have : ι b = none := this
   rw [this] at hb; cases hb
 have hmv : ∀ b p, ι b = some p → ι' (renB ids ids.length b) = some p := fun b p hb => by
  have hbl := hlt b p hb
  obtain ⟨h1, h2, _⟩ := hs b (by omega)
  rw [renB_lt hbl, hm1 _ h2, h1]; exact hb
 have hI : ι'.I = ι.I := by
  funext c
  refine propext ⟨?_, ?_⟩
  ·rintro ⟨b, o, s, hb⟩
   by_cases hbl : b < ids.length
   ·rw [hm1 b hbl] at hb; exact ⟨_, o, s, hb⟩
   ·rw [hm2 b hbl] at hb; exact ⟨_, o, s, hb⟩
  ·rintro ⟨b, o, s, hb⟩; exact ⟨_, o, s, hmv b _ hb⟩
 have hM : ι'.M = ι.M := by
  funext c
  show (ι'.I c ∨ ι.X c) = (ι.I c ∨ ι.X c)
  rw [hI]
 have hnth : ∀ b, b < ids.length → nth .dead (st.perm ids).heap b = (nth .dead st.heap (nth 0 ids b)).ren ids ids.length := fun b hb => by
  show nth .dead (getIds _ _) b = _
  rw [getIds_nth _ _ _ hb, renH_nth]
 have hlen : (st.perm ids).heap.length = ids.length := by
  exact getIds_len _ ids
 have hHR : HRel ι' (st.perm ids).heap w := by
  refine ⟨by rw [hM]; exact hr.mem.hr.gl, fun b => ?_, fun b b' c o s o' s' h1 h2 => ?_, fun b c o s h1 => ?_⟩
  ·by_cases hb : b < ids.length
   ·rw [hnth b hb, hm1 b hb]
    exact (hr.mem.hr.blk _).ren hmv hM rfl
   ·rw [nth_lt _ _ _ (by omega), hm2 b hb]
    have := hr.mem.hr.blk b
    rw [nth_lt _ _ _ (by omega)] at this
    exact this
  ·have key : ∀ b c o s, ι' b = some (c, o, s) → b < ids.length ∧ ι (nth 0 ids b) = some (c, o, s) := fun b c o s hb => by
    by_cases hbl : b < ids.length
    ·exact ⟨hbl, by rw [← hm1 b hbl]; exact hb⟩
    ·rw [hm2 b hbl] at hb; exact (hbl (hlt b _ hb)).elim
   obtain ⟨a1, a2⟩ := key _ _ _ _ h1
   obtain ⟨a3, a4⟩ := key _ _ _ _ h2
   have := hr.mem.hr.inj _ _ _ _ _ _ _ a2 a4
   have e1 := (hs b (by omega)).1
   have e2 := (hs b' (by omega)).1
   rw [← e1, ← e2, this]
  ·by_cases hbl : b < ids.length
   ·rw [hm1 b hbl] at h1; exact hr.mem.hr.dis _ _ _ _ h1
   ·rw [hm2 b hbl] at h1; exact hr.mem.hr.dis _ _ _ _ h1
 refine ⟨ι', hr.mem.step hHR (fun _ _ _ h => h) (fun c hc => .inl (by rw [← hI]; exact hc)) (Nat.le_refl _) ⟨rfl, rfl⟩ rfl rfl rfl rfl (fun b hb => ?_) (by rw [hlen, hl]; exact hr.mem.kl) (fun l r e => ?_), fun s => ?_, hr.sz, hr.df⟩
 ·by_cases hbl : b < ids.length
  ·rw [hm1 b hbl, (hs b (by omega)).2.2 (.inl hb)]
  ·exact hm2 b hbl
 ·by_cases h0 : 0 < ids.length
  ·rw [hnth 0 h0, (hs 0 (by omega)).2.2 (.inr rfl)] at e
   generalize nth .dead st.heap 0 = x at e ⊢
   cases x <;> simp only [Blk.ren] at e <;> first | exact e | cases e
  ·rw [nth_lt _ _ _ (by omega)] at e; cases e
 ·show RA w ι' (lk (renT ids ids.length st.tmps) s) _
  rw [renT_lk]
  exact (hr.tm s).ren hmv (fun c hc => by rw [← hM]; exact hc)
end
end Hk
namespace Hk
open Go
set_option linter.unusedVariables false
set_option linter.unusedSimpArgs false
section
variable {cx : Cx} {ι ι' : Inj} {h h' : List Blk} {a : Act} {w w' : World}
structure Over (cx : Cx) (l : Nat) (ι ι' : Inj) (w w' : World) (k' : Nat) : Prop where
 new : ∀ c, ι'.I c → ι.I c ∨ w.heap.size ≤ c
 same : ∀ (c : Nat) (o : Obj), ¬ ι.I c → c ≠ l → w.heap[c]? = some o → w'.heap[c]? = some o
 grow : w.heap.size ≤ w'.heap.size
 os : w'.os = w.os ∧ w'.output = w.output
 fx : ∀ b, cx.E.fx b = true → ι' b = ι b
 kl : cx.E.k ≤ k'
theorem Over.trans {l : Nat} {ι'' : Inj} {w'' : World} {k' k'' : Nat} (h1 : Over cx l ι ι' w w' k') (h2 : Over cx l ι' ι'' w' w'' k'') (hlt : ∀ c, ι'.I c → c < w'.heap.size) : Over cx l ι ι'' w w'' k'' := by
 refine ⟨fun c hc => ?_, fun c o hc hl ho => ?_, Nat.le_trans h1.grow h2.grow, ⟨h2.os.1.trans h1.os.1, h2.os.2.trans h1.os.2⟩, fun b hb => (h2.fx b hb).trans (h1.fx b hb), h2.kl⟩
 ·rcases h2.new c hc with h | h
  ·exact h1.new c h
  ·exact .inr (Nat.le_trans h1.grow h)
 ·refine h2.same c o (fun hI => ?_) hl (h1.same c o hc hl ho)
  rcases h1.new c hI with h | h
  ·exact hc h
  ·have := (Array.getElem?_eq_some_iff.1 ho).1; omega
theorem Over.step {l : Nat} {o : Obj} {k' : Nat} (hk : cx.E.k ≤ k') : Over cx l ι ι w (setW w l o) k' :=
 ⟨fun c h => .inl h, fun c x _ hl hx => by rw [setW_ne _ _ hl]; exact hx, by simp [setW], ⟨rfl, rfl⟩, fun _ _ => rfl, hk⟩
theorem HRel.foreign {l : Nat} {o : Obj} (hr : HRel ι h w) (hl : ι.X l) : HRel ι h (setW w l o) ∧ Later ι.M w (setW w l o) ι.M := by
 have hL : Later ι.M w (setW w l o) ι.M := ⟨fun c x hc hx => by
  rw [setW_ne _ _ (fun e => hc (by subst e; exact .inr hl))]; exact hx, fun c hc => .inl hc, by simp [setW]⟩
 exact ⟨⟨hr.gl.later hL, fun b => (hr.blk b).later hL (fun h => h) (fun _ _ h => h) (fun c o' s hb => by
  rw [setW_ne]; intro e; subst e; exact hr.dis _ _ _ _ hb hl), hr.inj, hr.dis⟩, hL⟩
theorem HRel.shrink (hr : HRel ι h w) (hm : ι'.m = ι.m) (hG : ι.G → ι'.G) (hX : ∀ c, ι'.X c → ι.X c) : HRel ι' h w ∧ Later ι.M w w ι'.M := by
 have hL : Later ι.M w w ι'.M := ⟨fun _ _ _ h => h, fun c hc => by
  rcases hc with ⟨b, o, s, hb⟩ | hc
  ·exact .inl (.inl ⟨b, o, s, by rw [← hm]; exact hb⟩)
  ·exact .inl (.inr (hX c hc)), Nat.le_refl _⟩
 refine ⟨⟨hr.gl.later hL, fun b => ?_, fun b b' c o s o' s' h1 h2 => hr.inj b b' c o s o' s' (by rw [← hm]; exact h1) (by rw [← hm]; exact h2), fun b c o s hb hc => hr.dis b c o s (by rw [← hm]; exact hb) (hX c hc)⟩, hL⟩
 rw [hm]
 exact (hr.blk b).later hL hG (fun b p hb => by rw [hm]; exact hb) (fun _ _ _ _ => rfl)
theorem Mem.over (hm : Mem cx ι h w) (hG : ¬ ι.G) {l : Nat} (hr : HRel ι' h' w') (ho : Over cx l ι ι' w w' h'.length) (hl : cx.w0.heap.size ≤ l) (hD : l ∉ ι.D) (hX : ∀ c, ι.X c → ι'.X c)
 (hXl : ∀ c, ι'.X c → c < w'.heap.size) (hS : ι'.S = ι.S) (hD' : ι'.D = ι.D) (hG' : ι'.G = ι.G) : Mem cx ι' h' w' := by
 have hnG : ¬ ι'.G := by rw [hG']; exact hG
 refine ⟨hr, hXl, fun c hc => hX c (hm.xs c (by rw [← hS]; exact hc)), fun c hc => hX c (hm.xe c hc), fun c hc => hm.se c (by rw [← hS]; exact hc), by rw [hG']; exact hm.ge, fun c hc => ?_, fun c h1 h2 h3 => ?_, Nat.le_trans hm.gr ho.grow,
  ⟨ho.os.1.trans hm.os.1, ho.os.2.trans hm.os.2⟩, fun b hb => (ho.fx b hb).trans (hm.fx b hb), ho.kl, fun d hd => ?_, by rw [hD']; exact hm.dn, fun l r e => ?_, fun hg => absurd hg hnG, by rw [hD']; exact hm.dz⟩
 ·rcases ho.new c hc with h1 | h1
  ·exact hm.ow c h1
  ·exact .inr (Nat.le_trans hm.gr h1)
 ·have hnI : ¬ ι.I c := fun hI => by
   rcases hm.ow c hI with h4 | h4
   ·exact h1 h4
   ·omega
  have h5 := hm.fr c h1 h2 h3
  have h6 : cx.w0.heap[c]? = some cx.w0.heap[c] := Array.getElem?_eq_getElem h3
  rw [h6] at h5 ⊢
  exact ho.same c _ hnI (by omega) h5
 ·rw [hD'] at hd
  obtain ⟨h1, h2, h3, h4⟩ := hm.dm d hd
  refine ⟨hX d h1, by rw [hS]; exact h2, h3, ho.same d _ (fun ⟨b, o, s, hb⟩ => hm.hr.dis _ _ _ _ hb h1) (fun e => hD (e ▸ hd)) h4⟩
 ·have := hr.blk 0
  rw [e] at this
  exact absurd this.2 hnG
def Cx.re (cx : Cx) (ι : Inj) (w : World) (okb : Nat → Bool) (a0 : Nat → Value) (hok : ∀ t, okb t = true → t < cx.n) : Cx :=
 { cx with w0 := w, own := ι.I, ι0 := ι, okb := okb, a0 := a0, okn := hok }
theorem Mem.re (hm : Mem cx ι h w) (hG : ¬ ι.G) (hS : ∀ c, ¬ ι.S c) {okb : Nat → Bool} {a0 : Nat → Value} {hok : ∀ t, okb t = true → t < cx.n} : Mem (cx.re ι w okb a0 hok) ι h w :=
 ⟨hm.hr, hm.xl, hm.xs, fun _ h => h, fun c hc => absurd hc (hS c), rfl, fun _ h => .inl h, fun _ _ _ _ => rfl, Nat.le_refl _, ⟨rfl, rfl⟩, fun _ _ => rfl, hm.kl, hm.dm, hm.dn,
  fun l r e => (by have := hm.hr.blk 0; rw [e] at this; exact absurd this.2 hG), fun hg => absurd hg hG, hm.dz⟩
theorem Mem.re_over {ι1 : Inj} {h1 : List Blk} {w1 : World} {okb : Nat → Bool} {a0 : Nat → Value} {hok : ∀ t, okb t = true → t < cx.n} (hm : Mem (cx.re ι w okb a0 hok) ι1 h1 w1) (hS : ∀ c, ¬ ι.S c) (l : Nat) : Over cx l ι ι1 w w1 h1.length :=
 ⟨hm.ow, fun c o hc _ ho => by rw [hm.fr c hc (hS c) (Array.getElem?_eq_some_iff.1 ho).1]; exact ho, hm.gr, hm.os, hm.fx, hm.kl⟩
theorem Mem.bare (hm : Mem cx ι h w) (hG : ¬ ι.G) : Mem cx { ι with S := fun _ => False } h w :=
 ⟨(hm.hr.shrink (ι' := { ι with S := fun _ => False }) rfl (fun h => h) (fun _ h => h)).1, hm.xl, fun _ h => h.elim, hm.xe, fun _ h => h.elim, hm.ge, hm.ow, hm.fr, hm.gr, hm.os, hm.fx, hm.kl, fun d hd => let ⟨h1, _, h3, h4⟩ := hm.dm d hd; ⟨h1, fun h => h, h3, h4⟩, hm.dn,
   fun l r e => (by have := hm.hr.blk 0; rw [e] at this; exact absurd this.2 hG), fun hg => absurd hg hG, hm.dz⟩
theorem Mem.noD (hm : Mem cx ι h w) (hG : ¬ ι.G) : Mem cx { ι with D := [] } h w :=
 ⟨(hm.hr.shrink (ι' := { ι with D := [] }) rfl (fun h => h) (fun _ h => h)).1, hm.xl, hm.xs, hm.xe, hm.se, hm.ge, hm.ow, hm.fr, hm.gr, hm.os, hm.fx, hm.kl, fun d hd => by (cases hd), List.nodup_nil,
   fun l r e => (by have := hm.hr.blk 0; rw [e] at this; exact absurd this.2 hG), fun hg => absurd hg hG, fun _ => rfl⟩
theorem RA.shrink (hL : Later ι.M w w ι'.M) (hm : ι'.m = ι.m) {x : AV} {v : Value} (h : RA w ι x v) : RA w ι' x v := h.later hL (fun b p hb => by rw [hm]; exact hb)
theorem Mem.enter (hm : Mem cx ι h w) (hG : ¬ ι.G) (hd : cx.dlo ≤ cx.w0.heap.size) (hnod : cx.nod = false) (ob : Obj) :
 let ι1 : Inj := ⟨ι.m, fun c => ι.X c ∨ w.heap.size ≤ c ∧ c ≤ w.heap.size + 1, fun _ => False, w.heap.size :: ι.D, ι.G⟩
 let w1 := pushW (pushW w (.deferred (some []))) ob
 Mem cx ι1 h w1 ∧ Later ι.M w w1 ι1.M := by
 intro ι1 w1
 have hold : ∀ (c : Nat) (o : Obj), w.heap[c]? = some o → w1.heap[c]? = some o := fun c o h => pushW_old _ _ _ _ (pushW_old _ _ _ _ h)
 have hs1 : (pushW w (.deferred (some []))).heap.size = w.heap.size + 1 := by simp [pushW]
 have hs : w1.heap.size = w.heap.size + 2 := by simp [w1, pushW]
 have hL : Later ι.M w w1 ι1.M := ⟨fun c o _ h => hold c o h, fun c hc => by
  rcases hc with ⟨b, o, s, hb⟩ | hc | hc
  ·exact .inl (.inl ⟨b, o, s, hb⟩)
  ·exact .inl (.inr hc)
  ·exact .inr hc.1, by omega⟩
 have hr : HRel ι1 h w1 := ⟨hm.hr.gl.later hL, fun b => (hm.hr.blk b).later hL (fun h => h) (fun _ _ h => h) (fun c o s hb => by
  obtain ⟨ob, h1, _⟩ := hm.hr.size hb
  rw [h1, hold c ob h1]), hm.hr.inj, fun b c o s hb hc => by
   rcases hc with hc | hc
   ·exact hm.hr.dis _ _ _ _ hb hc
   ·have := hm.hr.lt ⟨b, o, s, hb⟩; omega⟩
 refine ⟨⟨hr, fun c hc => ?_, fun _ h => h.elim, fun c hc => .inl (hm.xe c hc), fun _ h => h.elim, hm.ge, hm.ow, fun c h1 h2 h3 => ?_, by have := hm.gr; omega, hm.os, hm.fx, hm.kl, fun d hd' => ?_, ?_, fun l r e => ?_, fun hg => absurd hg hG, fun h => by rw [hnod] at h; cases h⟩, hL⟩
 ·rcases hc with hc | hc
  ·have := hm.xl c hc; omega
  ·omega
 ·have h5 := hm.fr c h1 h2 h3
  have h6 : cx.w0.heap[c]? = some cx.w0.heap[c] := Array.getElem?_eq_getElem h3
  rw [h6] at h5 ⊢
  exact hold c _ h5
 ·rcases List.mem_cons.1 hd' with rfl | hd'
  ·exact ⟨.inr ⟨Nat.le_refl _, by omega⟩, fun h => h, by have := hm.gr; omega, pushW_old _ _ _ _ (pushW_new _ _)⟩
  ·obtain ⟨h1, h2, h3, h4⟩ := hm.dm d hd'
   exact ⟨.inl h1, fun h => h, h3, hold d _ h4⟩
 ·refine List.nodup_cons.2 ⟨fun hd' => ?_, hm.dn⟩
  obtain ⟨_, _, _, h4⟩ := hm.dm _ hd'
  simp at h4
 ·have := hr.blk 0
  rw [e] at this
  exact absurd this.2 hG
theorem Mem.foreign (hm : Mem cx ι h w) (hG : ¬ ι.G) {l : Nat} {o : Obj} (hl : ι.X l) (hw : cx.w0.heap.size ≤ l) (hd : l ∉ ι.D) : Mem cx ι h (setW w l o) ∧ Later ι.M w (setW w l o) ι.M := by
 have hf := hm.hr.foreign (l := l) (o := o) hl
 exact ⟨hm.over hG (l := l) hf.1 (Over.step hm.kl) hw hd (fun _ h => h) (fun c hc => Nat.lt_of_lt_of_le (hm.xl c hc) hf.2.grow) rfl rfl rfl, hf.2⟩
theorem round_slots {w : World} {ι : Inj} {live : List Nat} {t : List (Nat × AV)} {a a1 : Array Value} (h : ∀ s, RA w ι (lk t s) (a1.getD s undef)) (hs : ∀ s, lk t s = .undef ∨ (memN live s = true ∧ a1.getD s undef = a.getD s undef)) :
 ∀ s, RA w ι (lk t s) (a.getD s undef) := fun s => by
 rcases hs s with h1 | ⟨_, h2⟩
 ·rw [h1]; exact .und _
 ·rw [← h2]; exact h s
theorem lk_trim_live (live : List Nat) (t : List (Nat × AV)) (s : Nat) : lk (live.map fun s => (s, lk t s)) s = .undef ∨ memN live s = true := by
 induction live with
 | nil => exact .inl rfl
 | cons x r ih =>
   simp only [List.map_cons, lk, memN]
   by_cases e : x = s
   ·subst e; right; simp
   ·rw [beqF e]
    simp only [cond_false, Bool.false_or]
    exact ih
theorem KLe.of_undef {h : List Blk} {fz kp : Nat → Bool} {y : AV} (hk : KLe h fz kp .undef y) : y = .undef := by cases hk; rfl
theorem mono_live {E : En} {live : List Nat} {st st' : St} (hle : StLe E (Hk.trim live st) st') (s : Nat) : lk st'.tmps s = .undef ∨ memN live s = true := by
 obtain ⟨_, ht, _⟩ := hle
 rcases ht.get s with h | h
 ·exact .inl h
 ·rcases lk_trim_live live st.tmps s with h1 | h1
  ·simp only [Hk.trim] at h
   rw [h1] at h
   exact .inl h.of_undef
  ·exact .inr h1
def zipV : List Nat → List Value → Array Value → Array Value
 | p :: ps, v :: vs, t => zipV ps vs (t.setIfInBounds p v)
 | _, _, t => t
theorem zipV_eq (ps : Array Nat) (vs t : Array Value) : (ps.zip vs).foldl (fun t (p : Nat × Value) => t.setIfInBounds p.1 p.2) t = zipV ps.toList vs.toList t := by
 rw [← Array.foldl_toList, Array.toList_zip]
 generalize ps.toList = l
 generalize vs.toList = m
 induction l generalizing m t with
 | nil => cases m <;> rfl
 | cons x r ih => cases m with
   | nil => rfl
   | cons y s => simp [zipV, ih]
theorem zipV_size : ∀ (ps : List Nat) (vs : List Value) (t : Array Value), (zipV ps vs t).size = t.size
 | [], _, t => by cases ‹List Value› <;> rfl
 | p :: ps, [], t => rfl
 | p :: ps, v :: vs, t => by simp [zipV, zipV_size ps vs]
theorem zipV_other : ∀ (ps : List Nat) (vs : List Value) (t : Array Value) (s : Nat), memN ps s = false → (zipV ps vs t).getD s undef = t.getD s undef
 | [], vs, t, s, _ => by cases vs <;> rfl
 | p :: ps, [], t, s, _ => rfl
 | p :: ps, v :: vs, t, s, h => by
   simp only [memN, Bool.or_eq_false_iff] at h
   have e : p ≠ s := fun e => by subst e; simp at h
   rw [zipV, zipV_other ps vs _ s h.2]
   simp [Array.getElem?_setIfInBounds_ne e]
theorem zip_slots {w : World} {ι : Inj} : ∀ (ps : List Nat) (y : List PV) (vs : List Value) (t : List (Nat × AV)) (a : Array Value), distinctN ps = true → y.length = vs.length → y.length = ps.length → (∀ p ∈ ps, p < a.size) →
 (∀ (i : Nat) x, y[i]? = some x → RP w ι.M x (vs.getD i undef)) → (∀ s, RA w ι (lk t s) (a.getD s undef)) → ∀ s, RA w ι (lk (zipP ps y t) s) ((zipV ps vs a).getD s undef)
 | [], [], [], t, a, _, _, _, _, _, h, s => h s
 | p :: ps, x :: y, v :: vs, t, a, hd, h1, h2, h3, hy, h, s => by
   simp only [distinctN, Bool.and_eq_true, Bool.not_eq_true'] at hd
   simp only [zipP, lk, zipV]
   by_cases e : p = s
   ·subst e
    simp only [Nat.beq_refl, cond_true]
    rw [zipV_other _ _ _ _ hd.1]
    have hlt := h3 p (by simp)
    have := hy 0 x rfl
    simp only [List.getD_cons_zero] at this
    simp [hlt]
    exact .p this
   ·rw [beqF e]
    simp only [cond_false]
    have ih := zip_slots (w := w) (ι := ι) ps y vs (t := (p, .undef) :: t) (a.setIfInBounds p v) hd.2 (by simpa using h1) (by simpa using h2) (fun q hq => by simp; exact h3 q (by simp [hq]))
     (fun i x hi => by simpa using hy (i + 1) x (by simpa using hi)) (fun s' => by
      simp only [lk]
      by_cases e' : p = s'
      ·subst e'; simp; exact .und _
      ·rw [beqF e']
       have := h s'
       simpa [Array.getElem?_setIfInBounds_ne e'] using this) s
    have hz : ∀ (ps : List Nat) (y : List PV) (t : List (Nat × AV)), lk (zipP ps y ((p, .undef) :: t)) s = lk (zipP ps y t) s := by
     intro ps
     induction ps with
     | nil => intro y t; simp [zipP, lk, beqF e]
     | cons q r ih2 => intro y t; cases y with
       | nil => simp [zipP, lk, beqF e]
       | cons z y => simp [zipP, lk, ih2]
    rw [hz] at ih
    exact ih
 | [], _ :: _, _, _, _, _, _, h2, _, _, _, _ => by simp at h2
 | _ :: _, [], _, _, _, _, _, h2, _, _, _, _ => by simp at h2
 | [], [], _ :: _, _, _, _, h1, _, _, _, _, _ => by simp at h1
 | _ :: _, _ :: _, [], _, _, _, h1, _, _, _, _, _ => by simp at h1
end
end Hk
namespace Hk
open Go
set_option linter.unusedVariables false
set_option linter.unusedSimpArgs false
def ccode (P : Program) : Bool → (Nat → Bool) → Code → List (List Nat) → Option (RC × List (List Nat))
 | _, _, .skip, L => some (.skip, L)
 | _, n, .region _ ops false, L => match cits P n ops ops.toList with
   | some l => some (.ops l, L)
   | none => none
 | _, n, .region _ ops true, L => match cdraw P n ops with
   | some t => some (.draw t, L)
   | none => none
 | top, n, .seq a b, L => match ccode P top n a L with
   | some (x, L1) => match ccode P top n b L1 with
     | some (y, L2) => some (.seq x y, L2)
     | none => none
   | none => none
 | top, n, .cond c a b, L => match cOpd c with
   | some c' => match ccode P top n a L with
     | some (x, L1) => match ccode P top n b L1 with
       | some (y, L2) => some (.cond c' x y, L2)
       | none => none
     | none => none
   | none => none
 | top, n, .block id a, L => match ccode P top n a L with
   | some (x, L1) => some (.block id x, L1)
   | none => none
 | top, n, .loop a, L => match L with
   | [] => none
   | l :: L0 => match ccode P top n a L0 with
     | some (x, L1) => some (.loop l x, L1)
     | none => none
 | true, n, .rangeFunc g ps b a, L => match L with
   | [] => none
   | l :: L0 => match cOpd g, ccode P false (fun t => n t && !memN l t) b L0 with
     | some g', some (y, L1) => match ccode P false (fun t => n t && !memN l t) a L1 with
       | some (x, L2) => if ps.toList.all (fun t => n t && !memN l t) && distinctN ps.toList then some (.rangef l g' ps.toList y x, L2) else none
       | none => none
     | _, _ => none
 | _, _, .label _, L => some (.skip, L)
 | top, n, .scope a, L => ccode P top n a L
 | _, _, .exit id, L => some (.exit id, L)
 | _, _, .ret, L => some (.ret, L)
 | _, _, _, _ => none
def QK (cx : Cx) (K : Ex → St → Prop) : Go.Exit → Act → World → Prop
 | .normal, a, w => Kc cx (K .normal) a w
 | .exit id, a, w => Kc cx (K (.exit id)) a w
 | .ret, a, w => Kc cx (K .ret) a w
 | _, _, _ => False
theorem least {p : Nat → Prop} (h : ∃ n, p n) : ∃ n, p n ∧ ∀ m, p m → n ≤ m := by
 obtain ⟨n, hn⟩ := h
 induction n using Nat.strongRecOn with
 | _ n ih =>
   by_cases hm : ∃ m, m < n ∧ p m
   ·obtain ⟨m, h1, h2⟩ := hm
    exact ih m h1 h2
   ·refine ⟨n, hn, fun m hp => ?_⟩
    rcases Nat.lt_or_ge m n with h | h
    ·exact absurd ⟨m, h, hp⟩ hm
    ·exact h
open Classical in
noncomputable def leastOf (p : Nat → Prop) : Nat := if h : ∃ n, p n then choose (least h) else 0
theorem leastOf_spec {p : Nat → Prop} (h : ∃ n, p n) : p (leastOf p) ∧ ∀ m, p m → leastOf p ≤ m := by
 unfold leastOf
 rw [dif_pos h]
 exact Classical.choose_spec (least h)
section
def exCode : Ex → Code
 | .exit id => .exit id
 | _ => .ret
def LoopL (ps : Array Tmp) (K : Ex → St → Prop) {α : Type} (mk : α → St) (ok : List (List PV) → α → Prop) : Option (List (List PV)) → LoopState → Option Code → St → Prop
 | some r, rs, pd, st => rs = .ready ∧ pd = none ∧ (∀ y ∈ r, y.length = ps.size) ∧ ∃ x, ok r x ∧ st = mk x
 | none, rs, pd, st => rs = .done ∧ ∃ e, pd = some (exCode e) ∧ e ≠ .normal ∧ K e st
def LoopJ (cx : Cx) (fn : FuncId) (a : Array Value) (ps : Array Tmp) (assign body : Code) (d l n1 : Nat) (B : Nat → Prop) (D : List Nat) (K : Ex → St → Prop) {α : Type} (mk : α → St) (ok : List (List PV) → α → Prop) : Jn := fun left w T S =>
 (∀ c, T c → n1 ≤ c ∧ c < w.heap.size ∧ ¬ S c) ∧ (S l ∧ n1 ≤ w.heap.size) ∧ (∀ c, S c → c < w.heap.size) ∧
 ∃ ι st, Mem cx ι st.heap w ∧ (∀ s, RA w ι (lk st.tmps s) (a.getD s undef)) ∧ (∀ c, ι.X c ↔ B c ∨ T c) ∧ (∀ c, ¬ ι.S c) ∧ ι.D = D ∧ (∀ c, ι.I c → S c) ∧
 ∃ rs pd, w.heap[l]? = some (.loop ⟨rs, pd, fn, a, ps, assign, body, d⟩) ∧
  LoopL ps K mk ok left rs pd st
structure LoopAt (cx : Cx) (l n1 : Nat) (B : Nat → Prop) (D : List Nat) : Prop where
 g : ¬ cx.ι0.G
 b : ∀ c, B c → c < n1
 bl : B l
 wl : cx.w0.heap.size ≤ l
 bx : ∀ c, cx.ι0.X c → B c
 bd : ∀ d ∈ D, B d
 dl : l ∉ D
section
variable {cx : Cx} {fn : FuncId} {a : Array Value} {ps : Array Tmp} {assign body : Code} {d l n1 : Nat} {B : Nat → Prop} {D : List Nat} {K : Ex → St → Prop} {α : Type} {mk : α → St} {ok : List (List PV) → α → Prop}
theorem LoopJ.stable (hA : LoopAt cx l n1 B D) : (LoopJ cx fn a ps assign body d l n1 B D K mk ok).stable := by
 intro left w w' T T' S ⟨hT, ⟨hSl, hn1⟩, hSlt, ι, st, hm, tm, hX, hS, hD, hI, rs, pd, hrec, hleft⟩ hkeep hnew hlt hgrow hos
 have hTM : ∀ c, T c → ι.X c := fun c hc => (hX c).2 (.inr hc)
 have hIT : ∀ c, ι.I c → ¬ T c := fun c hc ht => (hT c ht).2.2 (hI c hc)
 have hBT : ∀ c, B c → ¬ T c := fun c hc ht => by have := (hT c ht).1; have := hA.b c hc; omega
 have hnG : ¬ ι.G := by rw [hm.ge]; exact hA.g
 let ι' : Inj := { ι with X := fun c => B c ∨ T' c }
 have hL : Later ι.M w w' ι'.M := by
  refine ⟨fun c o hc ho => hkeep c o (fun ht => hc (.inr (hTM c ht))) ho, fun c hc => ?_, hgrow⟩
  rcases hc with hc | hc | hc
  ·exact .inl (.inl hc)
  ·exact .inl (.inr ((hX c).2 (.inl hc)))
  ·rcases hnew c hc with h | h
   ·exact .inl (.inr (hTM c h))
   ·exact .inr h
 have hr' : HRel ι' st.heap w' := by
  refine ⟨hm.hr.gl.later hL, fun b => (hm.hr.blk b).later hL (fun h => h) (fun _ _ h => h) (fun c o s hb => ?_), hm.hr.inj, fun b c o s hb hc => ?_⟩
  ·obtain ⟨ob, h1, _⟩ := hm.hr.size hb
   rw [h1, hkeep c ob (hIT c ⟨b, o, s, hb⟩) h1]
  ·have hIc : ι.I c := ⟨b, o, s, hb⟩
   rcases hc with hc | hc
   ·exact hm.hr.dis _ _ _ _ hb ((hX c).2 (.inl hc))
   ·rcases hnew c hc with h | h
    ·exact hIT c hIc h
    ·have := hm.hr.lt hIc; omega
 have hT' : ∀ c, T' c → n1 ≤ c ∧ c < w'.heap.size ∧ ¬ S c := fun c hc => by
  rcases hnew c hc with h | h
  ·exact ⟨(hT c h).1, hlt c hc, (hT c h).2.2⟩
  ·exact ⟨Nat.le_trans hn1 h, hlt c hc, fun hs => by have := hSlt c hs; omega⟩
 refine ⟨hT', ⟨hSl, Nat.le_trans hn1 hgrow⟩, fun c hc => Nat.lt_of_lt_of_le (hSlt c hc) hgrow, ι', st, ?_, fun s => (tm s).later hL (fun _ _ h => h), fun c => Iff.rfl, hS, hD, hI, rs, pd,
  hkeep l _ (hBT l hA.bl) hrec, hleft⟩
 refine ⟨hr', fun c hc => ?_, fun c hc => absurd hc (hS c), fun c hc => .inl (hA.bx c hc), fun c hc => absurd hc (hS c), hm.ge, hm.ow, fun c h1 h2 h3 => ?_, Nat.le_trans hm.gr hgrow, ⟨hos.1.trans hm.os.1, hos.2.trans hm.os.2⟩,
  hm.fx, hm.kl, fun d hd => ?_, hm.dn, fun l r e => ?_, fun hg => absurd hg hnG, hm.dz⟩
 ·rcases hc with hc | hc
  ·have := hA.b c hc; omega
  ·exact hlt c hc
 ·have h5 := hm.fr c h1 h2 h3
  have h6 : cx.w0.heap[c]? = some cx.w0.heap[c] := Array.getElem?_eq_getElem h3
  rw [h6] at h5 ⊢
  refine hkeep c _ (fun ht => ?_) h5
  have := (hT c ht).1
  have := hA.wl
  have := hA.b l hA.bl
  omega
 ·obtain ⟨h1, h2, h3, h4⟩ := hm.dm d hd
  have hb : B d := hA.bd d (by rw [← hD]; exact hd)
  exact ⟨.inl hb, h2, h3, hkeep d _ (hBT d hb) h4⟩
 ·have := hr'.blk 0
  rw [e] at this
  exact absurd this.2 hnG
theorem LoopJ.back (hA : LoopAt cx l n1 B D) {left : Option (List (List PV))} {w w' : World} {T S : Nat → Prop} {ι ι' : Inj} {st st' : St} (hT : ∀ c, T c → n1 ≤ c ∧ c < w.heap.size ∧ ¬ S c) (hSl : S l) (hn1 : n1 ≤ w.heap.size) (hSlt : ∀ c, S c → c < w.heap.size)
 (hm : Mem cx ι st.heap w) (hX : ∀ c, ι.X c ↔ B c ∨ T c) (hS : ∀ c, ¬ ι.S c) (hD : ι.D = D) (hI : ∀ c, ι.I c → S c)
 (hr : HRel ι' st'.heap w') (ho : Over cx l ι ι' w w' st'.heap.length) (hXX : ∀ c, ι.X c → ι'.X c) (tm : ∀ s, RA w' ι' (lk st'.tmps s) (a.getD s undef)) {rs : LoopState} {pd : Option Code}
 (hrec : w'.heap[l]? = some (.loop ⟨rs, pd, fn, a, ps, assign, body, d⟩))
 (hG' : ι'.G = ι.G) (hleft : LoopL ps K mk ok left rs pd st') :
 ∃ S', Chg S w w' S' ∧ LoopJ cx fn a ps assign body d l n1 B D K mk ok left w' T S' := by
 have hnG : ¬ ι.G := by rw [hm.ge]; exact hA.g
 let ι2 : Inj := ⟨ι'.m, fun c => B c ∨ T c, fun _ => False, D, ι.G⟩
 have hXlt : ∀ c, B c ∨ T c → c < w'.heap.size := fun c hc => Nat.lt_of_lt_of_le (hm.xl c ((hX c).2 hc)) ho.grow
 have h2 : HRel ι2 st'.heap w' ∧ Later ι'.M w' w' ι2.M := hr.shrink rfl (fun h => by show ι.G; rw [← hG']; exact h) (fun c hc => hXX c ((hX c).2 hc))
 have hI2 : ∀ c, ι2.I c → ι.I c ∨ w.heap.size ≤ c := fun c ⟨b, o, s, hb⟩ => ho.new c ⟨b, o, s, hb⟩
 have hmem : Mem cx ι2 st'.heap w' := by
  have h3 := hm.bare hnG
  refine Mem.over (l := l) h3 hnG h2.1 ⟨hI2, ho.same, ho.grow, ho.os, ho.fx, ho.kl⟩ hA.wl (by show l ∉ ι.D; rw [hD]; exact hA.dl) (fun c hc => (hX c).1 hc) hXlt rfl hD.symm rfl
 refine ⟨fun c => S c ∨ ι2.I c, ⟨fun c h => .inl h, fun c hc => ?_, fun c hc => ?_, fun c o hc hx => ho.same c o (fun h => hc (hI c h)) (fun e => hc (e ▸ hSl)) hx, ho.grow, ho.os⟩,
  fun c hc => ⟨(hT c hc).1, Nat.lt_of_lt_of_le (hT c hc).2.1 ho.grow, fun hs => ?_⟩, ⟨.inl hSl, Nat.le_trans hn1 ho.grow⟩, fun c hc => ?_, ι2, st', hmem, fun s => (tm s).later h2.2 (fun _ _ h => h), fun c => Iff.rfl, fun _ h => h, rfl, fun c h => .inr h, rs, pd, hrec, hleft⟩
 ·rcases hc with hc | hc
  ·exact .inl hc
  ·exact (hI2 c hc).imp (hI c) id
 ·rcases hc with hc | hc
  ·exact Nat.lt_of_lt_of_le (hSlt c hc) ho.grow
  ·exact h2.1.lt hc
 ·rcases hs with hs | hs
  ·exact (hT c hc).2.2 hs
  ·rcases hI2 c hs with h | h
   ·exact (hT c hc).2.2 (hI c h)
   ·have := (hT c hc).2.1; omega
 ·rcases hc with hc | hc
  ·exact Nat.lt_of_lt_of_le (hSlt c hc) ho.grow
  ·exact h2.1.lt hc
theorem LoopJ.yield (hA : LoopAt cx l n1 B D) {okb' : Nat → Bool} {hok' : ∀ t, okb' t = true → t < cx.n} {live : List Nat} (hlive : ∀ s, memN live s = true → okb' s = false) (hps : ∀ p ∈ ps.toList, okb' p = true) (hpd : distinctN ps.toList = true)
 (hsz : a.size = cx.n) {asg bd : RC}
 (hasg : ∀ (ι0 : Inj) (w0 : World) (a0 : Nat → Value) (K : Ex → St → Prop) (ι : Inj) (st : St) (b : Act) (w : World), ¬ ι0.G → Rel (cx.re ι0 w0 okb' a0 hok') ι st b w → awp cx.E asg K st → assign.wpIn (Fence.wide.inRound l) 0 cx.P (QK (cx.re ι0 w0 okb' a0 hok') K) b w)
 (hbody : ∀ (ι0 : Inj) (w0 : World) (a0 : Nat → Value) (K : Ex → St → Prop) (ι : Inj) (st : St) (b : Act) (w : World), ¬ ι0.G → Rel (cx.re ι0 w0 okb' a0 hok') ι st b w → awp cx.E bd K st → body.wpIn (Fence.wide.inRound l) 0 cx.P (QK (cx.re ι0 w0 okb' a0 hok') K) b w)
 (hround : ∀ y r x, ok (y :: r) x → awp cx.E asg (onlyN fun st => awp cx.E bd (roundK live K fun st => ∃ x, ok r x ∧ StLe cx.E (trim live st) (mk x)) st) ⟨zipP ps.toList y (mk x).tmps, (mk x).heap⟩)
 {X0 : Nat → Prop} (hX0 : ∀ c, B c → X0 c) : YieldSpec cx.P X0 (LoopJ cx fn a ps assign body d l n1 B D K mk ok) l := by
 intro y r w T S X vs ⟨hT, ⟨hSl, hn1⟩, hSlt, ι, st, hm, tm, hX, hS, hD, hI, rs, pd, hrec, hrs, hpd', hlen, x, hx, hst⟩ hXX hSX hy
 subst hrs hpd' hst
 have hnG : ¬ ι.G := by rw [hm.ge]; exact hA.g
 have hyl : y.length = ps.size := hlen y (by simp)
 have hlX : ι.X l := (hX l).2 (.inl hA.bl)
 have hlI : ¬ ι.I l := fun ⟨b, o, s, hb⟩ => hm.hr.dis _ _ _ _ hb hlX
 have hllt : l < w.heap.size := hm.xl l hlX
 have hvs : vs.size = ps.size := by rw [hy.1]; exact hyl
 refine ⟨fn, zipV ps.toList vs.toList a, assign, body, ?_, ?_⟩
 ·have := run_yield (P := cx.P) (args := vs) hrec hvs
  rw [this]
  simp only [← zipV_eq]
 ·
  let ιr : Inj := { ι with D := [] }
  let a' := zipV ps.toList vs.toList a
  let a0 : Nat → Value := fun s => a'.getD s undef
  have hmr : Mem cx ιr (mk x).heap w := hm.noD hnG
  have hmr' : Mem (cx.re ιr w okb' a0 hok') ιr (mk x).heap w := hmr.re hnG hS
  have hL0 : Later (fun c => T c ∨ X c) w w ι.M := ⟨fun _ _ _ h => h, fun c hc => by
   rcases hc with hc | hc
   ·exact .inl (.inr (hSX c (hI c hc)))
   ·rcases (hX c).1 hc with hc | hc
    ·exact .inl (.inr (hXX c (hX0 c hc)))
    ·exact .inl (.inl hc), Nat.le_refl _⟩
  have hrel : Rel (cx.re ιr w okb' a0 hok') ιr ⟨zipP ps.toList y (mk x).tmps, (mk x).heap⟩ ⟨a', []⟩ w := by
   refine ⟨hmr', fun s => ?_, ⟨by show (zipV _ _ _).size = _; rw [zipV_size]; exact hsz, fun s _ => rfl⟩, rfl⟩
   refine zip_slots ps.toList y vs.toList _ a hpd (by simpa using hy.1.symm) (by simpa using hyl) (fun p hp => by rw [hsz]; exact hok' p (hps p hp)) (fun i z hz => ?_) (fun s => RA.shrink (ι := ι) (ι' := ιr) ⟨fun _ _ _ h => h, fun _ h => .inl h, Nat.le_refl _⟩ rfl (tm s)) s
   have := hy.2 i z hz
   simp only [Array.getD_eq_getD_getElem?] at this
   simp only [List.getD_eq_getElem?_getD, Array.getElem?_toList]
   exact this.later hL0
  refine roundIn_of_wpIn trivial ?_
  refine Go.wpIn_mono (hasg ιr w a0 _ ιr _ ⟨a', []⟩ w hnG hrel (hround y r x hx)) ?_
  intro e a1 w1 hq
  cases e with
  | normal =>
    obtain ⟨ι1, st1, hr1, h1⟩ := hq
    have hor : Over cx l ι ιr w w (mk x).heap.length := ⟨fun c h => .inl h, fun _ _ _ _ h => h, Nat.le_refl _, ⟨rfl, rfl⟩, fun _ _ => rfl, hm.kl⟩
    have o1 : Over cx l ι ι1 w w1 st1.heap.length := hor.trans (hr1.mem.re_over (ι := ιr) hS l) (fun c hc => hm.hr.lt hc)
    have hX1 : ∀ c, ι.X c → ι1.X c := hr1.mem.xe
    have hG1 : ι1.G = ι.G := hr1.mem.ge
    have hrec1 : w1.heap[l]? = some (.loop ⟨.ready, none, fn, a, ps, assign, body, d⟩) := by
     rw [hr1.mem.fr l hlI (hS l) hllt]; exact hrec
    refine ⟨_, run_beginRound hrec1 rfl, ?_⟩
    let w2 := setW w1 l (.loop ⟨.busy, none, fn, a, ps, assign, body, d⟩)
    let ιb : Inj := { ι1 with S := fun _ => False }
    have hnG1 : ¬ ι1.G := by rw [hG1]; exact hnG
    have hf := (hr1.mem.hr.foreign (l := l) (o := .loop ⟨.busy, none, fn, a, ps, assign, body, d⟩) (hX1 l hlX))
    have hfb : HRel ιb st1.heap w2 ∧ Later ι1.M w2 w2 ιb.M := hf.1.shrink (ι' := ιb) rfl (fun h => h) (fun _ h => h)
    have hLb : Later ι1.M w1 w2 ιb.M := ⟨hf.2.keep, fun c hc => (hfb.2.new c hc).imp id (fun h => Nat.le_trans hf.2.grow h), hf.2.grow⟩
    have hl1 : l < w1.heap.size := (Array.getElem?_eq_some_iff.1 hrec1).1
    have hmb2 : Mem (cx.re ιb w2 okb' a0 hok') ιb st1.heap w2 :=
     ⟨hfb.1, fun c hc => Nat.lt_of_lt_of_le (hr1.mem.xl c hc) hf.2.grow, fun _ h => h.elim, fun _ h => h, fun _ h => h.elim, rfl, fun _ h => .inl h, fun _ _ _ _ => rfl, Nat.le_refl _, ⟨rfl, rfl⟩, fun _ _ => rfl, hr1.mem.kl,
      fun d' hd => (by
       obtain ⟨g1, g2, g3, g4⟩ := hr1.mem.dm d' hd
       refine ⟨g1, fun h => h, g3, ?_⟩
       have e : d' ≠ l := fun e => by subst e; rw [g4] at hrec1; cases hrec1
       rw [setW_ne _ _ e]; exact g4), hr1.mem.dn, fun l r e => (by have := hfb.1.blk 0; rw [e] at this; exact absurd this.2 hnG1), fun hg => absurd hg hnG1, hr1.mem.dz⟩
    have hrel2 : Rel (cx.re ιb w2 okb' a0 hok') ιb st1 a1 w2 := ⟨hmb2, fun s => (hr1.tm s).later hLb (fun _ _ h => h), hr1.sz, hr1.df⟩
    have o2 : Over cx l ι ιb w w2 st1.heap.length := o1.trans (ι' := ι1) (h2 := ⟨fun c h => .inl h, fun c x _ hl hx => by rw [setW_ne _ _ hl]; exact hx, hf.2.grow, ⟨rfl, rfl⟩, fun _ _ => rfl, hr1.mem.kl⟩) (fun c hc => hr1.mem.hr.lt hc)
    refine Go.wpIn_mono (hbody ιb w2 a0 _ ιb st1 a1 w2 hnG1 hrel2 h1) ?_
    have fin : ∀ {ι3 : Inj} {st3 : St} {a3 : Act} {w3 : World}, Rel (cx.re ιb w2 okb' a0 hok') ι3 st3 a3 w3 → ∀ (jump : Option Code) (left : Option (List (List PV))) (st4 : St) (ι4 : Inj), HRel ι4 st4.heap w3 →
     (∀ c, ι4.I c → ι3.I c) → ι4.G = ι3.G → (∀ c, ι3.X c → ι4.X c) → (∀ b, cx.E.fx b = true → ι4 b = ι3 b) → cx.E.k ≤ st4.heap.length → (∀ s, RA w3 ι4 (lk st4.tmps s) (a3.tmps.getD s undef)) → (∀ s, lk st4.tmps s = .undef ∨ memN live s = true) →
     LoopL ps K mk ok left (if jump.isNone then .ready else .done) jump st4 →
     ∃ v w4, (Instr.endRound l jump).run cx.P w3 = .ok v w4 ∧ v = .bool jump.isNone ∧ ∃ S', Chg S w w4 S' ∧ LoopJ cx fn a ps assign body d l n1 B D K mk ok left w4 T S' := by
     intro ι3 st3 a3 w3 hr3 jump left st4 ι4 hh4 hI4 hG4 hX4 hfx4 hkl4 tm4 hs4 hL4
     have hlIb : ¬ ιb.I l := fun ⟨b, o, s, hb⟩ => hr1.mem.hr.dis _ _ _ _ hb (hX1 l hlX)
     have hrec3 : w3.heap[l]? = some (.loop ⟨.busy, none, fn, a, ps, assign, body, d⟩) := by
      rw [hr3.mem.fr l hlIb (fun h => h) (by show l < (setW w1 l _).heap.size; simp [setW]; exact hl1)]
      exact setW_self _ _ _ hl1
     have hl3 : l < w3.heap.size := (Array.getElem?_eq_some_iff.1 hrec3).1
     refine ⟨_, _, run_endRound jump hrec3, rfl, ?_⟩
     have o3 : Over cx l ι ι3 w w3 st3.heap.length := o2.trans (hr3.mem.re_over (ι := ιb) (fun _ h => h) l) (fun c hc => hfb.1.lt hc)
     have hX3 : ∀ c, ι.X c → ι3.X c := fun c hc => hr3.mem.xe c (hX1 c hc)
     have hX34 : ∀ c, ι.X c → ι4.X c := fun c hc => hX4 c (hX3 c hc)
     have hf4 := hh4.foreign (l := l) (o := .loop ⟨if jump.isNone then .ready else .done, jump, fn, a, ps, assign, body, d⟩) (hX34 l hlX)
     refine LoopJ.back hA (ι' := ι4) (st' := st4) hT hSl hn1 hSlt hm hX hS hD hI hf4.1 ?_ hX34 (fun s => ?_) (setW_self _ _ _ hl3) ?_ hL4
     ·exact ⟨fun c hc => o3.new c (hI4 c hc), fun c o hc hcl ho => by
       show (setW w3 l _).heap[c]? = _
       rw [setW_ne _ _ hcl]; exact o3.same c o hc hcl ho, Nat.le_trans o3.grow hf4.2.grow, o3.os, fun b hb => (hfx4 b hb).trans (o3.fx b hb), hkl4⟩
     ·have h5 := (tm4 s).later hf4.2 (fun _ _ h => h)
      rcases hs4 s with h6 | h6
      ·rw [h6]; exact .und _
      ·have h7 := hr3.sz.2 s (hlive s h6)
       have h8 : a0 s = a.getD s undef := by
        show (zipV _ _ _).getD s undef = _
        rw [zipV_other]
        cases hmem : memN ps.toList s with
        | false => rfl
        | true => have := hps s (memN_iff.1 hmem); rw [hlive s h6] at this; cases this
       have h9 : a3.tmps.getD s undef = a.getD s undef := h7.trans h8
       rw [← h9]; exact h5
     ·rw [hG4, hr3.mem.ge]; exact hG1
    have stop : ∀ {ι3 : Inj} {st3 : St} {a3 : Act} {w3 : World} (e : Ex), e ≠ .normal → Rel (cx.re ιb w2 okb' a0 hok') ι3 st3 a3 w3 → K e (Hk.trim live st3) →
     ∃ v w4, (Instr.endRound l (some (exCode e))).run cx.P w3 = .ok v w4 ∧ (fun e' w' => ∃ S', Chg S w w' S' ∧ ((e' = .returned (.bool true) ∧ LoopJ cx fn a ps assign body d l n1 B D K mk ok (some r) w' T S') ∨ (e' = .returned (.bool false) ∧ LoopJ cx fn a ps assign body d l n1 B D K mk ok none w' T S'))) (Ending.returned v) w4 := by
     intro ι3 st3 a3 w3 e hne hr3 hk
     have ht := hr3.trim live
     obtain ⟨v, w4, h5, rfl, S', h6, h7⟩ := fin hr3 (some (exCode e)) none (Hk.trim live st3) ι3 hr3.mem.hr (fun _ h => h) rfl (fun _ h => h) (fun _ _ => rfl) hr3.mem.kl ht.tm (lk_trim_live live st3.tmps) ⟨rfl, e, rfl, hne, hk⟩
     exact ⟨_, w4, h5, S', h6, .inr ⟨rfl, h7⟩⟩
    intro e a3 w3 hq
    cases e with
    | normal =>
      obtain ⟨ι3, st3, hr3, z, hz, hle⟩ := hq
      have ht := hr3.trim live
      have hr4 := ht.mono' hle
      obtain ⟨v, w4, h5, rfl, S', h6, h7⟩ := fin hr3 none (some r) (mk z) (ι3.cut (mk z).heap) hr4.mem.hr (fun c ⟨b, o, s, hb⟩ => ⟨b, o, s, (Inj.cut_some hb).1⟩) rfl (fun _ h => h)
       (fun b hb => Inj.cut_live (fixOk_spec hle.1.2 b (cx.fk b hb) hb)) hr4.mem.kl hr4.tm (mono_live hle) ⟨rfl, rfl, fun y hy => hlen y (by simp [hy]), z, hz, rfl⟩
      exact ⟨_, w4, h5, S', h6, .inl ⟨rfl, h7⟩⟩
    | ret => obtain ⟨ι3, st3, hr3, hk⟩ := hq; exact stop .ret (by simp) hr3 hk
    | exit id => obtain ⟨ι3, st3, hr3, hk⟩ := hq; exact stop (.exit id) (by simp) hr3 hk
    | goto t => exact hq.elim
    | panic c => exact hq.elim
    | outgrown => exact hq.elim
  | exit id => obtain ⟨_, _, _, h⟩ := hq; exact h.elim
  | ret => obtain ⟨_, _, _, h⟩ := hq; exact h.elim
  | goto t => exact hq.elim
  | panic c => exact hq.elim
  | outgrown => exact hq.elim
end
section
theorem wpIn_scope {F : Fence} {n : Nat} {P : Program} {Q : Go.Exit → Act → World → Prop} {a : Act} {w : World} {c : Code} (hg : ∀ l a w, ¬ Q (.goto l) a w) (h : c.wpIn F n P Q a w) : (Code.scope c).wpIn F n P Q a w := by
 intro b k cs hro hb hr
 have h0 : (lone (b.atR a (.code (.scope c) :: k)) cs w).fenced P F := fenced_calm hb hr rfl
 have s1 : step P (lone (b.atR a (.code (.scope c) :: k)) cs w) = .next (lone (b.atR a (.code c :: .inScope c :: k)) cs w) := step_lone_go (by simp [stepG, stepG.exec, Frame.atR])
 have s2 : ∀ a w, step P (lone (b.atR a (.inScope c :: k)) cs w) = .next (lone (b.atR a k) cs w) := fun a w => step_lone_go (by simp [stepG, stepG.exec, Frame.atR])
 obtain ⟨e, a₁, w₁, hq, harr⟩ := h b (.inScope c :: k) cs hro hb hr
 cases e with
 | normal => exact ⟨.normal, a₁, w₁, hq, .head h0 s1 (StepsIn.trans harr (.one (fenced_calm hb hr rfl) (s2 _ _)))⟩
 | exit id =>
   have hx : exitTo id (.inScope c :: k) = exitTo id k := by simp [exitTo]
   exact ⟨.exit id, a₁, w₁, hq, fun k' hk => .head h0 s1 (harr.1 k' (by rw [hx]; exact hk)),
    fun hr' hk => let ⟨k₁, h1, h2⟩ := harr.2 hr' (by rw [hx]; exact hk); ⟨k₁, h1, .head h0 s1 h2⟩⟩
 | goto l => exact absurd hq (hg _ _ _)
 | ret => exact ⟨_, a₁, w₁, hq, .of_steps (.one h0 s1) harr⟩
 | panic ch => exact ⟨_, a₁, w₁, hq, .of_steps (.one h0 s1) harr⟩
 | outgrown => exact ⟨_, a₁, w₁, hq, .of_steps (.one h0 s1) harr⟩
theorem awp_sound (P : Program) (hm : P.follows .mixedOrders = true) : ∀ (c : Code) (top : Bool) (okb : Nat → Bool) (L : List (List Nat)) (rc : RC) (L' : List (List Nat)), ccode P top okb c L = some (rc, L') →
 ∀ (cx : Cx) (F : Fence), cx.P = P → (∀ t, cx.okb t = okb t) → Knows cx → Wd F → (top = true → F = Fence.wide ∧ ¬ cx.ι0.G ∧ cx.dlo ≤ cx.w0.heap.size ∧ cx.nod = false) →
 ∀ (K : Ex → St → Prop) {ι : Inj} {st : St} {a : Act} {w : World}, Rel cx ι st a w → awp cx.E rc K st → c.wpIn F 0 P (QK cx K) a w := by
 intro c
 induction c with
 | skip =>
   intro top okb L rc L' hc cx F hP hok hF hW htop K ι st a w hr h
   have hc : some (RC.skip, L) = some (rc, L') := by cases top <;> exact hc
   cases hc
   exact wpIn_skip ⟨ι, st, hr, h⟩
 | region id ops draw =>
   intro top okb L rc L' hc cx F hP hok hF hW htop K ι st a w hr h
   subst hP
   have hokb : cx.okb = okb := funext hok
   subst hokb
   cases draw with
   | false =>
     have hc : (match cits cx.P cx.okb ops ops.toList with | some l => some (RC.ops l, L) | none => none) = some (rc, L') := by cases top <;> exact hc
     split at hc
     ·rename_i l hl
      cases hc
      exact wpIn_region_list (wpListIn_of hW _ (cits_nodefer hl) (vops_sound hF (Q := QK cx K) (K := K .normal) (fun h => h) _ _ hl hr h))
     ·cases hc
   | true =>
     have hc : (match cdraw cx.P cx.okb ops with | some t => some (RC.draw t, L) | none => none) = some (rc, L') := by cases top <;> exact hc
     split at hc
     ·rename_i t ht
      cases hc
      refine draw_sound hW hF hm (Q := QK cx K) (K := joinK cx.E (K .normal)) (fun h => ?_) (fun c a w a' w' h => h.elim) ht hr h
      obtain ⟨ι1, st1, hr1, h1⟩ := h
      cases h1 with
      | here h => exact ⟨ι1, st1, hr1, h⟩
      | via st' h hle =>
        obtain ⟨ι2, hr2⟩ := hr1.mono hle
        exact ⟨ι2, st', hr2, h⟩
      | perm ids st' h hp hle =>
        obtain ⟨ι2, hr2⟩ := hr1.perm hp
        obtain ⟨ι3, hr3⟩ := hr2.mono hle
        exact ⟨ι3, st', hr3, h⟩
     ·cases hc
 | seq x y ihx ihy =>
   intro top okb L rc L' hc cx F hP hok hF hW htop K ι st a w hr h
   simp only [ccode] at hc
   split at hc
   ·rename_i rx L1 hx
    split at hc
    ·rename_i ry L2 hy
     cases hc
     refine wpIn_seq (Go.wpIn_mono (ihx _ _ _ _ _ hx cx F hP hok hF hW htop _ hr h) ?_)
     intro e a' w' hq
     cases e with
     | normal => obtain ⟨ι', st', hr', h'⟩ := hq; exact ihy _ _ _ _ _ hy cx F hP hok hF hW htop K hr' h'
     | exit id => exact hq
     | ret => exact hq
     | goto l => exact hq.elim
     | panic c => exact hq.elim
     | outgrown => exact hq.elim
    ·cases hc
   ·cases hc
 | cond c x y ihx ihy =>
   intro top okb L rc L' hc cx F hP hok hF hW htop K ι st a w hr h
   simp only [ccode] at hc
   split at hc
   ·rename_i c' hcc
    split at hc
    ·rename_i rx L1 hx
     split at hc
     ·rename_i ry L2 hy
      cases hc
      have hv := ev_sound hr.mem.hr.gl hr.tm hcc
      simp only [awp] at h
      unfold condK at h
      split at h
      ·rename_i b hb
       rw [hb] at hv
       have hcv := RA_b hv
       have h := bk_of h
       have hset : Rel cx ι (setCond c' b st) a w := by
        cases c' with
        | t s => exact hr.dup hb
        | c x => exact hr
       cases b with
       | true => exact wpIn_cond_true hcv (ihx _ _ _ _ _ hx cx F hP hok hF hW htop K hset h)
       | false => exact wpIn_cond_false hcv (ihy _ _ _ _ _ hy cx F hP hok hF hW htop K hset h)
      ·exact h.elim
     ·cases hc
    ·cases hc
   ·cases hc
 | block id x ihx =>
   intro top okb L rc L' hc cx F hP hok hF hW htop K ι st a w hr h
   simp only [ccode] at hc
   split at hc
   ·rename_i rx L1 hx
    cases hc
    refine wpIn_block (Go.wpIn_mono (ihx _ _ _ _ _ hx cx F hP hok hF hW htop _ hr h) ?_)
    intro e a' w' hq
    cases e with
    | normal => exact hq
    | exit n =>
      obtain ⟨ι', st', hr', h'⟩ := hq
      simp only [inBlk] at h'
      by_cases e : n = id
      ·subst e
       simp only [Nat.beq_refl, cond_true] at h'
       simp only [Go.Exit.inBlock, if_true]
       exact ⟨ι', st', hr', h'⟩
      ·rw [beqF e] at h'
       simp only [Go.Exit.inBlock, e, if_false]
       exact ⟨ι', st', hr', h'⟩
    | ret => exact hq
    | goto l => exact hq.elim
    | panic c => exact hq.elim
    | outgrown => exact hq.elim
   ·cases hc
 | loop x ihx =>
   intro top okb L rc L' hc cx F hP hok hF hW htop K ι st a w hr h
   simp only [ccode] at hc
   split at hc
   ·cases hc
   ·rename_i l L0
    split at hc
    ·rename_i rx L1 hx
     cases hc
     simp only [awp] at h
     obtain ⟨ms, α, mk, ok, mu, ⟨x0, hx0, hle⟩, hround⟩ := h
     let p : Act → World → Nat → Prop := fun a w n => ∃ x, ok x ∧ mu x = n ∧ ∃ ι, Rel cx ι (mk x) a w
     refine wpIn_loop (fun a w => ∃ n, p a w n) (fun a w => leastOf (p a w)) ?_ ?_
     ·obtain ⟨ι', hr'⟩ := ((hr.trim l).mat ms).mono hle
      exact ⟨_, x0, hx0, rfl, ι', hr'⟩
     ·intro a w hI
      obtain ⟨⟨y, hy, hmu, ι1, hr1⟩, hmin⟩ := leastOf_spec hI
      refine Go.wpIn_mono (ihx _ _ _ _ _ hx cx F hP hok hF hW htop _ hr1 (hround y hy)) ?_
      intro e a' w' hq
      cases e with
      | normal =>
        obtain ⟨ι', st', hr', z, hz, hlt, hle⟩ := hq
        obtain ⟨ι2, hr2⟩ := (hr'.trim l).mono hle
        have hp : p a' w' (mu z) := ⟨z, hz, rfl, ι2, hr2⟩
        refine ⟨⟨_, hp⟩, ?_⟩
        have := (leastOf_spec ⟨_, hp⟩).2 _ hp
        show leastOf (p a' w') < leastOf (p a w)
        have hmu' : mu y = leastOf (p a w) := hmu
        omega
      | exit id => exact hq
      | ret => exact hq
      | goto l => exact hq.elim
      | panic c => exact hq.elim
      | outgrown => exact hq.elim
    ·cases hc
 | rangeFunc g ps b x ihb ihx =>
   intro top okb L rc L' hc cx F hP hok hF hW htop K ι st a w hr h
   cases top with
   | false => cases hc
   | true =>
   obtain ⟨rfl, hnG0, hdlo, hnod⟩ := htop rfl
   subst hP
   have hokb : cx.okb = okb := funext hok
   subst hokb
   simp only [ccode] at hc
   split at hc
   ·cases hc
   rename_i live L0
   split at hc
   case h_2 => cases hc
   rename_i g' y L1 hg hy
   split at hc
   case h_2 => cases hc
   rename_i rx L2 hx
   split at hc
   case isFalse => cases hc
   rename_i hcond
   cases hc
   simp only [Bool.and_eq_true] at hcond
   simp only [awp] at h
   have hgv := ev_sound hr.mem.hr.gl hr.tm hg
   generalize ev st g' = af at h hgv
   unfold onIter at h
   split at h
   case h_2 => exact h.elim
   rename_i gf caps
   obtain ⟨en, ys, ms, α, mk, ok, hG, hen, hylen, ⟨x0, hx0, hle⟩, hround, hend⟩ := h
   have hp := RA_p hgv
   generalize hfv : a.eval g = fv at hp
   cases hp
   rename_i fa cav h1 h2 h3 h4
   have hfa : fa = #[] := by
    apply Array.eq_empty_of_size_eq_zero; simpa using h1
   subst hfa
   have hnG : ¬ ι.G := by rw [hr.mem.ge]; exact hnG0
   refine wpIn_rangeFunc fun fn _ => ?_
   let rec0 : Loop := ⟨.ready, none, fn, a.tmps, ps, b, x, w.heap.size⟩
   let w1 := pushW (pushW w (.deferred (some []))) (.loop rec0)
   obtain ⟨hm1, hL1⟩ := hr.mem.enter hnG hdlo hnod (.loop rec0)
   let ι1 : Inj := ⟨ι.m, fun c => ι.X c ∨ w.heap.size ≤ c ∧ c ≤ w.heap.size + 1, fun _ => False, w.heap.size :: ι.D, ι.G⟩
   have hm1 : Mem cx ι1 st.heap w1 := hm1
   let a1 : Act := { a with defers := markOf w.heap.size :: a.defers }
   have hr1 : Rel cx ι1 st a1 w1 := ⟨hm1, fun s => (hr.tm s).later hL1 (fun _ _ h => h), hr.sz, by show _ :: a.defers = _; rw [hr.df]; rfl⟩
   have hs1 : w1.heap.size = w.heap.size + 2 := by simp [w1, pushW]
   have hrec1 : w1.heap[w.heap.size + 1]? = some (.loop rec0) := by
    have e : (pushW w (.deferred (some []))).heap.size = w.heap.size + 1 := by simp [pushW]
    have := pushW_new (pushW w (.deferred (some []))) (.loop rec0)
    rw [e] at this
    exact this
   have hA : LoopAt cx (w.heap.size + 1) w1.heap.size ι1.X ι1.D := by
    refine ⟨hnG0, hm1.xl, .inr ⟨by omega, by omega⟩, by have := hr.mem.gr; omega, fun c hc => .inl (hr.mem.xe c hc), fun d hd => (hm1.dm d hd).1, fun hd => ?_⟩
    have := (hm1.dm _ hd).2.2.2
    rw [hrec1] at this; cases this
   have hcallable := (hF.it gf caps en ys hG).1
   have hfn : ∀ (w : World) (args : Array Value), (callFunc gf args).run cx.P w = .ok (.enter gf args) w := fun w args => run_callFunc hcallable w
   refine ⟨w.heap.size + 1, [markOf w.heap.size], w1, { target := .fn (.func gf) cav, args := #[.func (.yield (w.heap.size + 1)) #[] #[]] }, w1, gf, #[.func (.yield (w.heap.size + 1)) #[] #[]] ++ cav, w1, ?_, ?_, fun _ _ => trivial, ?_, fun h => absurd h (by simp [Fence.wide]), ?_⟩
   ·exact run_enterLoop_outer fn a.tmps ps b x
   ·simp [resolve, Deferred.ofValue, hfv]; rfl
   ·simp [invoke, hfn]
   ·have hYS := LoopJ.yield (cx := cx) (fn := fn) (a := a.tmps) (ps := ps) (assign := b) (body := x) (d := w.heap.size) (K := K) (mk := mk) (ok := ok) hA (okb' := fun t => cx.okb t && !memN live t) (hok' := fun t ht => cx.okn t (by simp at ht; exact ht.1)) (live := live)
     (fun s hs => by simp [hs]) (fun p hp => by simpa using List.all_eq_true.1 hcond.1 p hp) hcond.2 hr.sz.1 (asg := y) (bd := rx)
     (fun ι0 w0 a0 K' ι' st' b' w' hg0 hr' h' => ihb _ _ _ _ _ hy (cx.re ι0 w0 _ a0 _) _ rfl (fun _ => rfl) ⟨hF.fn, hF.it, fun hg => absurd hg hg0⟩ (.inr ⟨_, rfl⟩) (fun h => by cases h) K' hr' h')
     (fun ι0 w0 a0 K' ι' st' b' w' hg0 hr' h' => ihx _ _ _ _ _ hx (cx.re ι0 w0 _ a0 _) _ rfl (fun _ => rfl) ⟨hF.fn, hF.it, fun hg => absurd hg hg0⟩ (.inr ⟨_, rfl⟩) (fun h => by cases h) K' hr' h')
     hround (X0 := ι1.M) (fun c hc => .inr hc)
    have hr2 := ((hr1.trim live).mat ms).mono' hle
    have hGives := (hF.it gf caps en ys hG).2 (w.heap.size + 1) w1 ι1.M (fun c => ι1.I c ∨ c = w.heap.size + 1) (LoopJ cx fn a.tmps ps b x w.heap.size (w.heap.size + 1) w1.heap.size ι1.X ι1.D K mk ok) cav
     (fun c hc => hc.elim .inl (fun e => .inr (.inr ⟨by omega, by omega⟩)))
     (fun c hc => hc.elim (fun hc => hm1.hr.lt hc) (fun hc => hm1.xl c hc)) (LoopJ.stable hA)
     (fun he w T S ⟨_, _, _, _, _, _, _, _, _, _, _, _, _, _, _, _, _, z, hz, _⟩ => hen he z hz) hYS hm1.hr.gl
     ⟨fun c hc => hc.elim, ⟨.inr rfl, Nat.le_refl _⟩, fun c hc => hc.elim (fun hc => hm1.hr.lt hc) (fun e => by omega), ι1.cut (mk x0).heap, mk x0, hr2.mem, fun s => hr2.tm s, fun c => ⟨fun h => .inl h, fun h => h.elim id (fun h => h.elim)⟩, fun _ h => h, rfl,
      fun c ⟨b, o, s, hb⟩ => .inl ⟨b, o, s, (Inj.cut_some hb).1⟩, .ready, none, hrec1, rfl, rfl, fun z hz => by simpa using hylen z hz, x0, hx0, rfl⟩
     ⟨h3, fun i z hz => (h4 i z hz).later hL1⟩
    refine callsIn_wide.2 (Calls.mono hGives ?_)
    rintro e w3 ⟨⟨v, rfl⟩, S', hchg, hJ⟩
    have fin : ∀ (left : Option (List (List PV))), LoopJ cx fn a.tmps ps b x w.heap.size (w.heap.size + 1) w1.heap.size ι1.X ι1.D K mk ok left w3 (fun _ => False) S' → ∃ rs pd w4 ι5 st5, (Instr.endLoop (w.heap.size + 1)).run cx.P w3 = .ok pd w4 ∧ Rel cx ι5 st5 a1 w4 ∧ LoopL ps K mk ok left rs pd st5 := by
     rintro left ⟨_, _, _, ι5, st5, hm5, tm5, hX5, hS5, hD5, _, rs, pd, hrec5, hleft⟩
     have hb : rs ≠ .busy := by
      cases left with
      | none => rw [hleft.1]; simp
      | some r => rw [hleft.1]; simp
     have hX : ι5.X (w.heap.size + 1) := (hX5 _).2 (.inl (.inr ⟨by omega, by omega⟩))
     obtain ⟨hm6, hL6⟩ := hm5.foreign (o := .loop ⟨.exhausted, pd, fn, a.tmps, ps, b, x, w.heap.size⟩) (by rw [hm5.ge]; exact hnG0) hX (by have := hr.mem.gr; omega) (by rw [hD5]; exact hA.dl)
     exact ⟨rs, pd, _, ι5, st5, run_endLoop hrec5 hb, ⟨hm6, fun s => (tm5 s).later hL6 (fun _ _ h => h), hr.sz, by show _ :: a.defers = _; rw [hD5, hr.df]; rfl⟩, hleft⟩
    rcases hJ with hJ | hJ
    ·obtain ⟨rs, pd, w4, ι5, st5, hrun, hr5, _, rfl, _, z, hz, rfl⟩ := fin _ hJ
     exact ⟨none, w4, hrun, ι5, _, hr5, hend z hz⟩
    ·obtain ⟨rs, pd, w4, ι5, st5, hrun, hr5, _, e, rfl, hne, hk⟩ := fin _ hJ
     refine ⟨some (exCode e), w4, hrun, ?_⟩
     cases e with
     | normal => exact absurd rfl hne
     | ret => exact wpIn_ret ⟨ι5, st5, hr5, hk⟩
     | exit id => exact wpIn_exit ⟨ι5, st5, hr5, hk⟩
 | scope x ihx =>
   intro top okb L rc L' hc cx F hP hok hF hW htop K ι st a w hr h
   simp only [ccode] at hc
   exact wpIn_scope (fun _ _ _ h => h) (ihx _ _ _ _ _ hc cx F hP hok hF hW htop _ hr h)
 | label l =>
   intro top okb L rc L' hc cx F hP hok hF hW htop K ι st a w hr h
   have hc : some (RC.skip, L) = some (rc, L') := by cases top <;> exact hc
   cases hc
   exact wpIn_label ⟨ι, st, hr, h⟩
 | exit id =>
   intro top okb L rc L' hc cx F hP hok hF hW htop K ι st a w hr h
   have hc : some (RC.exit id, L) = some (rc, L') := by cases top <;> exact hc
   cases hc
   exact wpIn_exit ⟨ι, st, hr, h⟩
 | ret =>
   intro top okb L rc L' hc cx F hP hok hF hW htop K ι st a w hr h
   have hc : some (RC.ret, L) = some (rc, L') := by cases top <;> exact hc
   cases hc
   exact wpIn_ret ⟨ι, st, hr, h⟩
 | _ => intro top okb L rc L' hc; cases top <;> cases hc
end
end
end Hk
