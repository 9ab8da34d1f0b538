/- Hk, part 11: what makes memory, and stores. -/
import Derived.Test.YtmgkffdnnjpmpaaHkMem
import Derived.Laws.Entries
import Derived.Laws.CopyRow
namespace Hk
open Go
set_option linter.unusedVariables false
set_option linter.unusedSimpArgs false

section
variable {cx : Cx} {ι : Inj} {st : St} {a : Act} {w : World}

/-- What an operation leaves: one of k's states; nothing that was there is turned, if so asked. -/
def After (cx : Cx) (q : Bool) (w : World) (k : St → Prop) (a' : Act) (w' : World) : Prop := Kc cx k a' w' ∧ (q = true → Ext w w')

theorem wp_value {P : Program} {o : Oper} {K : Act → World → Prop} {Q : Exit → Act → World → Prop} {v : Value} {w' : World}
    (h : (execOp a.eval o).run P w = .ok (.value v) w') (hk : K (a.put o.dst v) w') : o.wp P a w K Q := by
  unfold Oper.wp; rw [h]; exact hk
theorem wp_skip' {P : Program} {o : Oper} {K : Act → World → Prop} {Q : Exit → Act → World → Prop} {w' : World}
    (h : (execOp a.eval o).run P w = .ok .skip w') (hk : K (a.put o.dst undef) w') : o.wp P a w K Q := by
  unfold Oper.wp; rw [h]; exact hk

theorem killH_setNth_len (b : Nat) (h : List Blk) (x : Blk) : (setNth (killH b h) b x).length = h.length := by
  rw [setNth_eq]; simp [killH_len]

theorem CellsFor.blk {cells : List AV} {cs : Array Value} (h : CellsFor w ι cells cs) : BlkAt w ι cs 0 (.mx cells) := by
  refine ⟨by have := h.1; omega, fun j x hx => ?_⟩
  obtain ⟨h1, h2⟩ := h.2 j x hx
  have hlt : j < cs.size := by rw [h.1]; exact (List.getElem?_eq_some_iff.1 hx).1
  refine ⟨cs[j], by simp [hlt], ?_, ?_⟩
  · simpa [hlt] using h1
  · simpa [hlt] using h2

theorem CellsFor.row {ps : List PV} {cs : Array Value} (h : CellsFor w ι (ps.map .p) cs) : BlkAt w ι cs 0 (.pr ps.length [ps]) := by
  refine ⟨by have := h.1; simp at this ⊢; omega, fun i row hi => ?_, fun i row j x hi hx => ?_⟩
  · cases i <;> simp at hi
    subst hi; rfl
  · cases i <;> simp at hi
    subst hi
    have hx' : (ps.map AV.p)[j]? = some (.p x) := by simp [hx]
    obtain ⟨h1, h2⟩ := h.2 j _ hx'
    have hlt : j < cs.size := by rw [h.1]; exact (List.getElem?_eq_some_iff.1 hx').1
    have hr := RA_p h2
    exact ⟨hr.one_of h1, cs.getD j undef, by simp [hlt], hr⟩

/-- A block of cells is laid and its address put. -/
theorem lay_sound (hr : Rel cx ι st a w) {d : Option Nat} (hd : ∀ t, d = some t → t < cx.n) {cs : Array Value} {ty : TypeId} {blk : Blk} {wd : Nat} {k : St → Prop} {q : Bool}
    (hb : BlkAt w ι cs 0 blk) (hk : k (newSt st d (.ptr st.heap.length wd 0 0) blk)) :
    After cx q w k (a.put d (.pointer (some ⟨w.heap.size, 0, none⟩))) (pushW w (.cells cs ty)) := by
  have hpush : (pushW w (.cells cs ty)).heap[w.heap.size]? = some (.cells cs ty (0, 0)) := pushW_new _ _
  have hthaw : Thaw cs.size (0, 0) := fun o _ h => by omega
  obtain ⟨hm, hL, hι⟩ := hr.mem.lay (w' := pushW w (.cells cs ty)) (c := w.heap.size) (o := 0) (s := cs.size) (blk := blk) (Nat.le_refl _) (pushW_old w _) ⟨rfl, rfl⟩
    (fun hL hι => (hb.later hL hι).rb hpush hthaw)
  refine ⟨⟨_, _, ⟨?_, tm_put (st := ⟨st.tmps, st.heap ++ [blk]⟩) (tm_later hL hι hr.tm) hr.sz hd ?_, by rw [Act.put_size]; exact hr.sz, by rw [Act.put_df]; exact hr.df⟩, hk⟩, fun _ => pushW_old w _⟩
  · rw [put_heap]; exact hm
  · have := RA.ptr (w := pushW w (.cells cs ty)) (ι := ι.upd st.heap.length (some (w.heap.size, 0, cs.size))) (wd := wd) (i := 0) (j := 0) (Inj.upd_self _ _ _)
    simpa using this

theorem alloc_sound (hr : Rel cx ι st a w) {o : Oper} {e : TypeId} {z : List PV} {arr : Bool} (ho : o.op = .alloc e) (hz : zeroT cx.P e = some z) (hd : ∀ t, o.dst = some t → t < cx.n)
    {q : Bool} {k : St → Prop} (h : vro cx.E q (.alloc arr z) o.dst st k) {Q : Exit → Act → World → Prop} : o.wp cx.P a w (After cx q w k) Q := by
  obtain ⟨i, v, hi, hzv, hcf, hzr, hzs⟩ := zeroT_sound (w := w) (ι := ι) hz
  have hrun : (execOp a.eval o).run cx.P w = .ok (.value (.pointer (some ⟨w.heap.size, 0, none⟩))) (pushW w (.cells v.cells e)) := by
    simp [execOp, ho, Instr.alloc, run_zeroValue hi hzv, newVar, newRow]
    rfl
  refine wp_value hrun (lay_sound hr hd ?_ h)
  cases arr with
  | true => exact hcf.row
  | false => exact hcf.blk

theorem allP_p : ∀ l : List PV, allP (l.map .p) = some l
  | [] => rfl
  | x :: r => by simp [allP, allP_p r]

theorem aggPL_of {x : AV} {k : List PV → Prop} (h : aggPL x k) : allPL (cellsOf x) k := by
  unfold aggPL at h
  split at h
  · rename_i l; unfold allPL; simp [cellsOf, allP_p, h]
  · exact h

theorem box_sound (hr : Rel cx ι st a w) {o : Oper} {e : TypeId} {x : Operand} {x' : Opd} {sz : Nat} {arr : Bool} (ho : o.op = .box e x) (hx : cOpd x = some x') (hd : ∀ t, o.dst = some t → t < cx.n)
    {q : Bool} {k : St → Prop} (h : vro cx.E q (.box arr x' sz) o.dst st k) {Q : Exit → Act → World → Prop} : o.wp cx.P a w (After cx q w k) Q := by
  have hv := ev_sound hr.tm hx
  have hrun : (execOp a.eval o).run cx.P w = .ok (.value (.pointer (some ⟨w.heap.size, 0, none⟩))) (pushW w (.cells (a.eval x).cells e)) := by
    simp [execOp, ho, Instr.box, newVar, newRow]
    rfl
  have h : vbox arr sz o.dst st (ev st x') k := force_of (k := fun v => vbox arr sz o.dst st v k) h
  unfold vbox at h
  cases arr with
  | true =>
    have h := aggPL_of h
    simp only [allPL] at h
    split at h
    · rename_i ps hp
      obtain ⟨hsz, h⟩ := h
      have hok : vok (ev st x') = true := by
        generalize ev st x' = y at hp
        cases y <;> first | rfl | (simp [cellsOf, allP] at hp)
      have hcf : CellsFor w ι (cellsOf (ev st x')) (a.eval x).cells := cells_sound hok hv
      rw [allP_eq hp] at hcf
      subst hsz
      exact wp_value hrun (lay_sound hr hd hcf.row h)
    · exact h.elim
  | false =>
    simp only at h
    cases hb : (vok (ev st x') && Nat.beq (cellsOf (ev st x')).length sz) with
    | false => rw [hb] at h; exact h.elim
    | true =>
      rw [hb] at h
      simp only [Bool.and_eq_true] at hb
      have hcf : CellsFor w ι (cellsOf (ev st x')) (a.eval x).cells := cells_sound hb.1 hv
      exact wp_value hrun (lay_sound hr hd hcf.blk h)

/-! #### Stores -/

theorem run_storeCells {P : Program} (c o : Nat) (ty : TypeId) (fz : Nat × Nat) : ∀ (vs : List Value) (i : Nat) (cur : Array Value) (w : World), w.heap[c]? = some (.cells cur ty fz) →
    o + i + vs.length ≤ cur.size → Thaw cur.size fz → (∀ v ∈ vs, oneC v = true) →
    (storeCells ⟨c, o, none⟩ vs i).run P w = .ok () (setW w c (.cells (cur.toList.take (o + i) ++ vs ++ cur.toList.drop (o + i + vs.length)).toArray ty fz))
  | [], i, cur, w, hg, _, _, _ => by
    simp only [storeCells, List.append_nil, List.length_nil, Nat.add_zero, List.take_append_drop, Array.toArray_toList, setW]
    show Result.ok () w = _
    congr 1
    have : w.heap.setIfInBounds c (.cells cur ty fz) = w.heap := by
      apply Array.ext_getElem?
      intro j
      by_cases e : c = j
      · subst e
        have hlt := (Array.getElem?_eq_some_iff.1 hg).1
        simp [hlt, hg]
        exact (Array.getElem?_eq_some_iff.1 hg).2.symm
      · rw [Array.getElem?_setIfInBounds_ne e]
    rw [this]
  | v :: rest, i, cur, w, hg, hl, ht, h1 => by
    have hlt := (Array.getElem?_eq_some_iff.1 hg).1
    have hi : o + i < cur.size := by simp at hl; omega
    have hcell : w.cell? ⟨c, o + i, none⟩ = some cur[o + i] := by simp [World.cell?, hg, hi]
    have hfro : w.frozen? ⟨c, o + i, none⟩ = false := by
      simp only [World.frozen?, hg]
      have := ht (o + i) hi
      simp only [not_and, Nat.not_lt] at this
      simp only [Bool.and_eq_false_iff, decide_eq_false_iff_not, Nat.not_le, Nat.not_lt]
      by_cases h0 : fz.1 ≤ o + i
      · exact .inr (this h0)
      · exact .inl (by omega)
    have hset : w.setCell ⟨c, o + i, none⟩ v = setW w c (.cells (cur.setIfInBounds (o + i) v) ty fz) := by
      simp only [World.setCell, setW]
      congr 1
      apply Array.ext_getElem?
      intro j
      rw [Array.getElem?_modify]
      by_cases e : c = j
      · subst e
        have e1 := (Array.getElem?_eq_some_iff.1 hg).2
        simp [hlt, e1]
      · rw [Array.getElem?_setIfInBounds_ne e]; simp [e]
    have hst : (store ((⟨c, o, none⟩ : Addr).add i) v).run P w = .ok () (setW w c (.cells (cur.setIfInBounds (o + i) v) ty fz)) := by
      rw [add_none, run_store P w _ v _ (h1 v (by simp)), hcell]
      simp [hfro, hset]
    have ih := run_storeCells (P := P) c o ty fz rest (i + 1) (cur.setIfInBounds (o + i) v) (setW w c (.cells (cur.setIfInBounds (o + i) v) ty fz)) (setW_self _ _ _ hlt)
      (by simp at hl ⊢; omega) (by simpa using ht) (fun x hx => h1 x (by simp [hx]))
    simp only [storeCells, Sem.run_bind, hst, Result.andThen_ok, ih]
    congr 1
    simp only [setW, Array.setIfInBounds_setIfInBounds]
    congr 3
    have e := list_seg_step cur.toList (o + i) v rest (by simp at hl ⊢; omega)
    simpa [Array.toList_setIfInBounds, Nat.add_assoc] using e

end
end Hk
