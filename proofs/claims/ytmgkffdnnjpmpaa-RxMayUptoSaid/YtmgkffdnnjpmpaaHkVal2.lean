/- Hk, part 5: loads, indexes, fields, slice expressions: they do what their conditions say. -/
import Derived.Test.YtmgkffdnnjpmpaaHkVal
import Derived.Laws.Slices
import Derived.Laws.BytesString
import Derived.Laws.BytesArg
namespace Hk
open Go
set_option linter.unusedVariables false
set_option linter.unusedSimpArgs false

section
variable {P : Program} {ι : Inj} {st : St} {a : Act} {w : World}

/-- A row of pure cells at a place. -/
def RowAt (w : World) (M : Nat → Prop) (c off : Nat) (row : List PV) : Prop :=
  ∀ (j : Nat) x, row[j]? = some x → x.one = true ∧ ∃ v, w.cell? ⟨c, off + j, none⟩ = some v ∧ RP w M x v

/-- A variable's cells at a place. -/
def CellsAt (w : World) (ι : Inj) (c off : Nat) (cells : List AV) : Prop :=
  ∀ (j : Nat) x, cells[j]? = some x → ∃ v, w.cell? ⟨c, off + j, none⟩ = some v ∧ oneC v = true ∧ RA w ι x v

theorem RP.one_of {w : World} {M : Nat → Prop} {x : PV} {v : Value} (h : RP w M x v) (h1 : oneC v = true) : x.one = true := by
  cases h <;> first | rfl | (simp [oneC, Value.oneCell'] at h1)

theorem allP_eq {l : List AV} {ps : List PV} (h : allP l = some ps) : l = ps.map .p := by
  induction l generalizing ps with
  | nil => simp [allP] at h; subst h; rfl
  | cons x r ih =>
    cases x with
    | p x =>
      simp only [allP] at h
      cases hr : allP r with
      | none => simp [hr] at h
      | some l => simp [hr] at h; subst h; simp [ih hr]
    | _ => simp [allP] at h

theorem RP_agg {M : Nat → Prop} {cells : List PV} {v : Value} (h : RP w M (.agg cells) v) : ∃ cs : Array Value, v = .agg cs ∧ cs.size = cells.length ∧
    (∀ (i : Nat) x, cells[i]? = some x → x.one = true) ∧ ∀ (i : Nat) x, cells[i]? = some x → RP w M x (cs.getD i undef) := by
  cases h with
  | agg hl hone h => exact ⟨_, rfl, hl, hone, h⟩

theorem RP_isl {M : Nat → Prop} {wd : Nat} {rows : List (List PV)} {cap : Option Nat} {v : Value} (h : RP w M (.isl wd rows cap) v) :
    ∃ a c, v = .slice a rows.length c ∧ rows.length ≤ c ∧ (∀ k, cap = some k → c = k) ∧ (rows = [] ∨ ∃ ad : Addr, a = some ad ∧ ad.spot = none ∧ ¬ M ad.block ∧ ad.block < w.heap.size ∧
      ∀ (i : Nat) row, rows[i]? = some row → row.length = wd ∧ RowAt w M ad.block (ad.off + i * wd) row) := by
  cases h with
  | nil h => exact ⟨_, _, rfl, Nat.zero_le _, h, .inl rfl⟩
  | isl hs hM hb hc hcap hrow hone hcell hrp =>
    exact ⟨_, _, rfl, hc, hcap, .inr ⟨_, rfl, hs, hM, hb, fun i row hi => ⟨hrow i row hi, fun j x hx => ⟨hone i row j x hi hx, _, by rw [Nat.add_assoc]; exact hcell i row j x hi hx, hrp i row j x hi hx⟩⟩⟩⟩

theorem RP_irow_mk {M : Nat → Prop} {row : List PV} {c off : Nat} (h : RowAt w M c off row) (hM : ¬ M c) (hc : c < w.heap.size) (j : Nat) :
    RP w M (.irow row j) (.pointer (some ⟨c, off + j, none⟩)) := by
  refine .irow (a := ⟨c, off, none⟩) (cv := fun i => (w.cell? ⟨c, off + i, none⟩).getD undef) rfl hM hc (fun i x hx => (h i x hx).1) (fun i x hx => ?_) (fun i x hx => ?_)
  all_goals
    obtain ⟨_, v, hv, hr⟩ := h i x hx
    simp [hv, hr]

theorem RP_isl_mk {M : Nat → Prop} {wd : Nat} {rows : List (List PV)} {cap : Option Nat} {ad : Addr} {c : Nat} (hs : ad.spot = none) (hM : ¬ M ad.block) (hb : ad.block < w.heap.size)
    (hc : rows.length ≤ c) (hcap : ∀ k, cap = some k → c = k) (h : ∀ (i : Nat) row, rows[i]? = some row → row.length = wd ∧ RowAt w M ad.block (ad.off + i * wd) row) :
    RP w M (.isl wd rows cap) (.slice (some ad) rows.length c) := by
  refine .isl (cv := fun i j => (w.cell? ⟨ad.block, ad.off + (i * wd + j), none⟩).getD undef) hs hM hb hc hcap (fun i row hi => (h i row hi).1)
    (fun i row j x hi hx => ((h i row hi).2 j x hx).1) (fun i row j x hi hx => ?_) (fun i row j x hi hx => ?_)
  all_goals
    obtain ⟨_, v, hv, hr⟩ := (h i row hi).2 j x hx
    rw [Nat.add_assoc] at hv
    simp [hv, hr]

theorem mkAgg_sound {l : List AV} {cs : Array Value} (hl : cs.size = l.length) (hone : ∀ (i : Nat) x, l[i]? = some x → oneC (cs.getD i undef) = true)
    (h : ∀ (i : Nat) x, l[i]? = some x → RA w ι x (cs.getD i undef)) : RA w ι (mkAgg l) (.agg cs) := by
  unfold mkAgg
  split
  · rename_i ps hp
    have e := allP_eq hp
    subst e
    refine .p (.agg (by simpa using hl) (fun i x hx => ?_) (fun i x hx => ?_))
    all_goals
      have h1 := h i (.p x) (by simp [hx])
      have h2 := hone i (.p x) (by simp [hx])
      cases h1
      rename_i h1
    · exact h1.one_of h2
    · exact h1
  · exact .agg hl hone h

theorem run_loadAgg {t : TypeId} {sz : Nat} (hs : szT P t = some sz) (hg : aggT P t = some true) (c off : Nat) (f : Nat → Value) (w : World)
    (h : ∀ j, j < sz → w.cell? ⟨c, off + j, none⟩ = some (f j)) : (loadVar t ⟨c, off, none⟩).run P w = .ok (.agg ((List.range sz).map f).toArray) w := by
  have hl := run_loadCells (P := P) w ⟨c, off, none⟩ sz f (fun j hj => by rw [add_none]; exact h j hj)
  simp [loadVar, run_isAgg hg, run_sizeOf hs, hl]

theorem run_loadOne {t : TypeId} (hg : aggT P t = some false) (ad : Addr) (v : Value) (w : World)
    (h : w.cell? ad = some v) : (loadVar t ad).run P w = .ok v w := by
  simp [loadVar, run_isAgg hg, h]

theorem vrow_sound {c off : Nat} {row : List PV} (hr : RowAt w ι.M c off row) {j sz : Nat} {ag : Bool} {k : AV → Prop} (h : vrow row j sz ag k) {t : TypeId}
    (hs : szT P t = some sz) (hg : aggT P t = some ag) : Vals P w ι k (loadVar t ⟨c, off + j, none⟩) := by
  cases ag with
  | true =>
    obtain ⟨cs, rfl, hl, hk⟩ := h
    rw [dropN_eq] at hl hk
    have hlen : j + sz ≤ row.length ∨ sz = 0 := by
      simp at hl; omega
    have hget : ∀ i x, ((row.drop j).take sz)[i]? = some x → row[j + i]? = some x ∧ i < sz := fun i x hx => by
      rw [List.getElem?_take] at hx
      split at hx
      · rw [List.getElem?_drop] at hx; exact ⟨hx, by assumption⟩
      · cases hx
    have hcell : ∀ i, i < sz → ∃ x v, row[j + i]? = some x ∧ x.one = true ∧ w.cell? ⟨c, off + j + i, none⟩ = some v ∧ RP w ι.M x v := fun i hi => by
      have hlt : j + i < row.length := by omega
      obtain ⟨h1, v, h2, h3⟩ := hr (j + i) row[j + i] (List.getElem?_eq_getElem hlt)
      exact ⟨_, v, List.getElem?_eq_getElem hlt, h1, by rw [Nat.add_assoc]; exact h2, h3⟩
    refine .mk (v := .agg ((List.range sz).map fun i => (w.cell? ⟨c, off + j + i, none⟩).getD undef).toArray) hk (.p (.agg ?_ (fun i x hx => ?_) (fun i x hx => ?_))) fun w' hw' => ?_
    · simp [hl]
    · obtain ⟨h1, h2⟩ := hget i x hx
      exact (hr _ _ h1).1
    · obtain ⟨h1, h2⟩ := hget i x hx
      obtain ⟨x', v, h3, h4, h5, h6⟩ := hcell i h2
      rw [h1] at h3; cases h3
      simp [h2, h5, h6]
    · exact run_loadAgg hs hg c (off + j) _ w' fun i hi => by
        obtain ⟨x', v, h3, h4, h5, h6⟩ := hcell i hi
        rw [hw'.cell h5, h5]; rfl
  | false =>
    obtain ⟨x, hx, hk⟩ := h
    obtain ⟨h1, v, h2, h3⟩ := hr j x hx
    exact .mk (forceP_of hk) (.p h3) fun w' hw' => run_loadOne hg _ v w' (hw'.cell h2)

theorem vcells_sound {c off : Nat} {cells : List AV} (hr : CellsAt w ι c off cells) {j sz : Nat} {ag : Bool} {k : AV → Prop} (h : vcells cells j sz ag k) {t : TypeId}
    (hs : szT P t = some sz) (hg : aggT P t = some ag) : Vals P w ι k (loadVar t ⟨c, off + j, none⟩) := by
  cases ag with
  | true =>
    unfold vcells at h
    simp only at h
    cases hb : Nat.ble (j + sz) cells.length with
    | false => rw [hb] at h; exact h.elim
    | true =>
      rw [hb] at h
      have hlen := Nat.le_of_ble_eq_true hb
      simp only [cond_true] at h
      rw [dropN_eq] at h
      have hget : ∀ i x, ((cells.drop j).take sz)[i]? = some x → cells[j + i]? = some x ∧ i < sz := fun i x hx => by
        rw [List.getElem?_take] at hx
        split at hx
        · rw [List.getElem?_drop] at hx; exact ⟨hx, by assumption⟩
        · cases hx
      have hcell : ∀ i, i < sz → ∃ x v, cells[j + i]? = some x ∧ w.cell? ⟨c, off + j + i, none⟩ = some v ∧ oneC v = true ∧ RA w ι x v := fun i hi => by
        have hlt : j + i < cells.length := by omega
        obtain ⟨v, h2, h1, h3⟩ := hr (j + i) cells[j + i] (List.getElem?_eq_getElem hlt)
        exact ⟨_, v, List.getElem?_eq_getElem hlt, by rw [Nat.add_assoc]; exact h2, h1, h3⟩
      refine .mk (v := .agg ((List.range sz).map fun i => (w.cell? ⟨c, off + j + i, none⟩).getD undef).toArray) h (mkAgg_sound ?_ (fun i x hx => ?_) (fun i x hx => ?_)) fun w' hw' => ?_
      · simp; omega
      · obtain ⟨h1, h2⟩ := hget i x hx
        obtain ⟨x', v, h3, h4, h5, h6⟩ := hcell i h2
        rw [h1] at h3; cases h3
        simp [h2, h4]; exact h5
      · obtain ⟨h1, h2⟩ := hget i x hx
        obtain ⟨x', v, h3, h4, h5, h6⟩ := hcell i h2
        rw [h1] at h3; cases h3
        simp [h2, h4, h6]
      · exact run_loadAgg hs hg c (off + j) _ w' fun i hi => by
          obtain ⟨x', v, h3, h4, h5, h6⟩ := hcell i hi
          rw [hw'.cell h4, h4]; rfl
  | false =>
    unfold vcells at h
    simp only at h
    cases hb : Nat.blt j cells.length with
    | false => rw [hb] at h; exact h.elim
    | true =>
      rw [hb] at h
      simp only [cond_true] at h
      have hlt : j < cells.length := by simpa [Nat.blt_eq] using hb
      obtain ⟨v, h2, h1, h3⟩ := hr j cells[j] (List.getElem?_eq_getElem hlt)
      have e : nth .undef cells j = cells[j] := by rw [nth_eq, List.getElem?_eq_getElem hlt]; rfl
      rw [e] at h
      exact .mk (force_of h) h3 fun w' hw' => run_loadOne hg _ v w' (hw'.cell h2)

theorem cell_of {w : World} {c : Nat} {cs : Array Value} {ty : TypeId} {fz : Nat × Nat} (h : w.heap[c]? = some (.cells cs ty fz)) (off : Nat) :
    w.cell? ⟨c, off, none⟩ = cs[off]? := by simp [World.cell?, h]

theorem HRel.row {h : List Blk} (hr : HRel ι h w) {b wd c o s i : Nat} {rows : List (List PV)} {row : List PV} (hb : ι b = some (c, o, s)) (hn : nth .dead h b = .pr wd rows)
    (hi : rows[i]? = some row) : row.length = wd ∧ RowAt w ι.M c (o + i * wd) row := by
  have := hr.blk b
  rw [hn, RB, hb] at this
  rcases this with ⟨h0, _⟩ | ⟨c', o', s', cs, ty, fz, he, h1, hf, h2, h3, h4, h5⟩
  · cases h0
  · cases he
    refine ⟨h4 i row hi, fun j x hx => ?_⟩
    obtain ⟨h6, v, h7, h8⟩ := h5 i row j x hi hx
    exact ⟨h6, v, by rw [cell_of h1, Nat.add_assoc]; exact h7, h8⟩

theorem HRel.cells {h : List Blk} (hr : HRel ι h w) {b c o s : Nat} {cells : List AV} (hb : ι b = some (c, o, s)) (hn : nth .dead h b = .mx cells) :
    CellsAt w ι c o cells := by
  have := hr.blk b
  rw [hn, RB, hb] at this
  obtain ⟨c', o', s', cs, ty, fz, he, h1, hf, h2, h3, h4⟩ := this
  cases he
  intro j x hx
  obtain ⟨v, h5, h6, h7⟩ := h4 j x hx
  exact ⟨v, by rw [cell_of h1]; exact h5, h6, h7⟩

theorem vload_sound {h : List Blk} (hr : HRel ι h w) {av : AV} {v : Value} (hv : RA w ι av v) {sz : Nat} {ag : Bool} {k : AV → Prop} (hl : vload h av sz ag k) {t : TypeId}
    (hs : szT P t = some sz) (hg : aggT P t = some ag) : Vals P w ι k (Instr.loadAt t v) := by
  have pack : ∀ ad, Vals P w ι k (loadVar t ad) → Vals P w ι k (Instr.loadAt t (.pointer (some ad))) := fun ad h => by
    obtain ⟨x, u, h1, h2, h3⟩ := h
    exact .mk h1 h2 fun w' hw' => by simp [Instr.loadAt, Instr.sureAddr, h3 w' hw']
  unfold vload at hl
  split at hl
  · rename_i b wd i j
    cases hv
    rename_i c o s hb
    split at hl
    · rename_i cells hn
      split at hl
      · simp only [Nat.zero_mul, Nat.zero_add]
        exact pack _ (vcells_sound (hr.cells hb hn) hl hs hg)
      · exact hl.elim
    · rename_i wd' rows hn
      cases hw : Nat.beq wd wd' with
      | false => rw [hw] at hl; exact hl.elim
      | true =>
        rw [hw] at hl
        obtain rfl := Nat.eq_of_beq_eq_true hw
        obtain ⟨row, hi, hl⟩ := hl
        rw [← Nat.add_assoc]
        exact pack _ (vrow_sound (hr.row hb hn hi).2 hl hs hg)
    · exact hl.elim
  · rename_i row j
    cases hv
    rename_i hv
    cases hv
    rename_i ad cv hs' hM hb hone hcell hrp
    exact pack _ (vrow_sound (c := ad.block) (off := ad.off) (fun i x hx => ⟨hone i x hx, cv i, hcell i x hx, hrp i x hx⟩) hl hs hg)
  · exact hl.elim

/-! #### Indexes -/

theorem vidxA_sound {x i : AV} {v u : Value} (hx : RA w ι x v) (hi : RA w ι i u) {len esz : Nat} {k : AV → Prop} (h : vidxA x i len esz k) {t e : TypeId}
    (ht : P.underlying t = some (.array len e)) (hs : szT P e = some esz) : Vals P w ι k (Instr.indexAt t v u) := by
  unfold vidxA at h
  split at h
  · rename_i kk n
    rw [RA_int hi]
    obtain ⟨⟨h0, h1⟩, h⟩ := h
    have run : ∀ (ad : Addr) (w' : World), (Instr.indexAt t (.pointer (some ad)) (.int kk n)).run P w' = .ok (.pointer (some (ad.add (n.toNat * esz)))) w' := fun ad w' => by
      simp [Instr.indexAt, asIntOf, run_underlying ht, Instr.sureAddr, h0, h1, run_sizeOf hs]
    split at h
    · rename_i b wd r j
      cases hx
      rename_i c o s hb
      refine .mk h (.ptr hb) fun w' _ => ?_
      rw [run, add_none, Nat.add_assoc, Nat.add_assoc]
    · rename_i row j
      cases hx
      rename_i hx
      cases hx
      rename_i ad cv hs' hM hb hone hcell hrp
      refine .mk h (.p (.irow hs' hM hb hone hcell hrp)) fun w' _ => ?_
      rw [run, add_none, Nat.add_assoc]
    · exact h.elim
  · exact h.elim

theorem vidxS_sound {x i : AV} {v u : Value} (hx : RA w ι x v) (hi : RA w ι i u) {esz : Nat} {k : AV → Prop} (h : vidxS x i esz k) {t e : TypeId}
    (ht : P.underlying t = some (.slice e)) (hs : szT P e = some esz) : Vals P w ι k (Instr.indexAt t v u) := by
  unfold vidxS at h
  split at h
  · rename_i kk n
    rw [RA_int hi]
    have run : ∀ (ad : Addr) (len cap : Nat) (w' : World), 0 ≤ n → n < (len : Int) →
        (Instr.indexAt t (.slice (some ad) len cap) (.int kk n)).run P w' = .ok (.pointer (some (ad.add (n.toNat * esz)))) w' := fun ad len cap w' h0 h1 => by
      simp [Instr.indexAt, asIntOf, run_underlying ht, h0, h1, run_sizeOf hs]
    split at h
    · rename_i wd rows cap
      obtain ⟨⟨h0, h1⟩, row, hrow, h⟩ := h
      cases hw : Nat.beq wd esz with
      | false => rw [hw] at h; exact h.elim
      | true =>
        rw [hw] at h
        obtain rfl := Nat.eq_of_beq_eq_true hw
        cases hx
        rename_i hx
        obtain ⟨oa, c, rfl, hc, hcap, hr⟩ := RP_isl hx
        rcases hr with rfl | ⟨ad, rfl, hs', hM, hb, hr⟩
        · simp at hrow
        · refine .mk h (.p (RP_irow_mk (hr _ _ hrow).2 hM hb 0)) fun w' _ => ?_
          rw [run _ _ _ _ h0 h1, add_spot hs']; rfl
    · rename_i b wd r len cap
      obtain ⟨⟨h0, h1⟩, h⟩ := h
      cases hw : Nat.beq wd esz with
      | false => rw [hw] at h; exact h.elim
      | true =>
        rw [hw] at h
        obtain rfl := Nat.eq_of_beq_eq_true hw
        cases hx
        · rename_i c o s cc hb hl hcap hs'
          refine .mk h (.ptr hb) fun w' _ => ?_
          rw [run _ _ _ _ h0 h1, add_none, Nat.add_mul, Nat.add_zero, Nat.add_assoc]
        · simp at h1; omega
    · rename_i b wd r j e' len
      obtain ⟨⟨h0, h1⟩, h⟩ := h
      cases hw : Nat.beq e' esz with
      | false => rw [hw] at h; exact h.elim
      | true =>
        rw [hw] at h
        obtain rfl := Nat.eq_of_beq_eq_true hw
        cases hx with
        | csl hb hl =>
          refine .mk h (.ptr hb) fun w' _ => ?_
          rw [run _ _ _ _ h0 h1, add_none, Nat.add_assoc, Nat.add_assoc]
        | cslz => simp at h1; omega
    · exact h.elim
  · exact h.elim

theorem bytes_get (l : List UInt8) (n : Nat) : (⟨⟨l⟩⟩ : ByteArray)[n]? = l[n]? := by
  by_cases h : n < l.length
  · rw [List.getElem?_eq_getElem h, getElem?_pos (⟨⟨l⟩⟩ : ByteArray) n h]; rfl
  · rw [List.getElem?_eq_none (by omega), getElem?_neg (⟨⟨l⟩⟩ : ByteArray) n h]

theorem vidxStr_sound {x i : AV} {v u : Value} (hx : RA w ι x v) (hi : RA w ι i u) {k : AV → Prop} (h : vidxStr x i k) {t : TypeId}
    (ht : P.underlying t = some .string) : Vals P w ι k (Instr.index t v u) := by
  unfold vidxStr at h
  split at h
  · rename_i l kk n
    obtain ⟨h0, c, hc, h⟩ := h
    rw [RA_int hi, RA_str hx]
    refine .mk h (.p (.int _ _)) fun w' _ => ?_
    simp [Instr.index, asIntOf, run_underlying ht, h0, bytes_get, hc]
  · exact h.elim

/-- Cells of an aggregate by value. -/
theorem part_sound {cells : List PV} {cs : Array Value} (hc : RP w ι.M (.agg cells) (.agg cs)) {j sz : Nat} {ag : Bool} {k : AV → Prop} (h : vrow cells j sz ag k) {t : TypeId}
    (hs : szT P t = some sz) (hg : aggT P t = some ag) : Vals P w ι k (part t cs j) := by
  obtain ⟨cs', hcs, hl, hone, hrp⟩ := RP_agg hc
  cases hcs
  cases ag with
  | true =>
    obtain ⟨xs, rfl, hx, hk⟩ := h
    rw [dropN_eq] at hx hk
    have hlen : j + sz ≤ cells.length ∨ sz = 0 := by simp at hx; omega
    have hget : ∀ i x, ((cells.drop j).take sz)[i]? = some x → cells[j + i]? = some x ∧ i < sz := fun i x hx => by
      rw [List.getElem?_take] at hx
      split at hx
      · rw [List.getElem?_drop] at hx; exact ⟨hx, by assumption⟩
      · cases hx
    have hgd : ∀ i, i < sz → (cs.extract j (j + sz)).getD i undef = cs.getD (j + i) undef := fun i hi => by
      simp only [Array.getD_eq_getD_getElem?, Array.getElem?_extract]
      rw [if_pos (by omega)]
    refine .mk hk (.p (.agg (cs := cs.extract j (j + sz)) (by simp at hx ⊢; omega) (fun i x hx => hone _ _ (hget i x hx).1) (fun i x hx => ?_))) fun w' _ => by
      simp [part, run_isAgg hg, run_sizeOf hs]
    obtain ⟨h1, h2⟩ := hget i x hx
    rw [hgd i h2]
    exact hrp _ _ h1
  | false =>
    obtain ⟨x, hx, hk⟩ := h
    refine .mk (forceP_of hk) (.p (hrp j x hx)) fun w' _ => ?_
    have hlt : j < cs.size := by rw [hl]; exact (List.getElem?_eq_some_iff.1 hx).1
    simp [part, run_isAgg hg, hlt]

theorem partA_sound {cells : List AV} {cs : Array Value} (hc : RA w ι (.agg cells) (.agg cs)) {j sz : Nat} {ag : Bool} {k : AV → Prop} (h : vcells cells j sz ag k) {t : TypeId}
    (hs : szT P t = some sz) (hg : aggT P t = some ag) : Vals P w ι k (part t cs j) := by
  cases hc
  rename_i hl hone hrp
  cases ag with
  | true =>
    unfold vcells at h
    simp only at h
    cases hb : Nat.ble (j + sz) cells.length with
    | false => rw [hb] at h; exact h.elim
    | true =>
      rw [hb] at h
      have hlen := Nat.le_of_ble_eq_true hb
      simp only [cond_true] at h
      rw [dropN_eq] at h
      have hget : ∀ i x, ((cells.drop j).take sz)[i]? = some x → cells[j + i]? = some x ∧ i < sz := fun i x hx => by
        rw [List.getElem?_take] at hx
        split at hx
        · rw [List.getElem?_drop] at hx; exact ⟨hx, by assumption⟩
        · cases hx
      have hgd : ∀ i, i < sz → (cs.extract j (j + sz)).getD i undef = cs.getD (j + i) undef := fun i hi => by
        simp only [Array.getD_eq_getD_getElem?, Array.getElem?_extract]
        rw [if_pos (by omega)]
      refine .mk h (mkAgg_sound (cs := cs.extract j (j + sz)) (by simp; omega) (fun i x hx => ?_) (fun i x hx => ?_)) fun w' _ => by
        simp [part, run_isAgg hg, run_sizeOf hs]
      all_goals
        obtain ⟨h1, h2⟩ := hget i x hx
        rw [hgd i h2]
      · exact hone _ _ h1
      · exact hrp _ _ h1
  | false =>
    unfold vcells at h
    simp only at h
    cases hb : Nat.blt j cells.length with
    | false => rw [hb] at h; exact h.elim
    | true =>
      rw [hb] at h
      simp only [cond_true] at h
      have hlt : j < cells.length := by simpa [Nat.blt_eq] using hb
      have e : nth .undef cells j = cells[j] := by rw [nth_eq, List.getElem?_eq_getElem hlt]; rfl
      rw [e] at h
      refine .mk (force_of h) (hrp j _ (List.getElem?_eq_getElem hlt)) fun w' _ => ?_
      have hlt' : j < cs.size := by omega
      simp [part, run_isAgg hg, hlt']

theorem vidxArr_sound {x i : AV} {v u : Value} (hx : RA w ι x v) (hi : RA w ι i u) {len esz : Nat} {ag : Bool} {k : AV → Prop} (h : vidxArr x i len esz ag k) {t e : TypeId}
    (ht : P.underlying t = some (.array len e)) (hs : szT P e = some esz) (hg : aggT P e = some ag) : Vals P w ι k (Instr.index t v u) := by
  unfold vidxArr at h
  split at h
  · rename_i cells kk n
    obtain ⟨⟨h0, h1⟩, h⟩ := h
    rw [RA_int hi]
    cases hx
    rename_i hx
    have hx' := hx
    cases hx
    rename_i cs hl hone hrp
    obtain ⟨y, z, h2, h3, h4⟩ := part_sound hx' h hs hg
    exact .mk h2 h3 fun w' hw' => by simp [Instr.index, asIntOf, run_underlying ht, h0, h1, run_sizeOf hs, h4 w' hw']
  · exact h.elim

theorem vfadr_sound {x : AV} {v : Value} (hx : RA w ι x v) {k : AV → Prop} {t : TypeId} {fs : Array Field} {f n : Nat} {fd : Field} (h : vfadr x fd.offset k)
    (ht : P.underlying t = some (.struct fs)) (hf : fs[f]? = some fd) (hs : szT P fd.type = some (n + 1)) : Vals P w ι k (Instr.fieldAt t v f) := by
  have run : ∀ (ad : Addr) (w' : World), (Instr.fieldAt t (.pointer (some ad)) f).run P w' = .ok (.pointer (some (ad.add fd.offset))) w' := fun ad w' => by
    simp [Instr.fieldAt, run_underlying ht, hf, Instr.sureAddr, fieldPlace, run_sizeOf hs]
  unfold vfadr at h
  split at h
  · rename_i b wd i j
    cases hx
    rename_i c o s hb
    refine .mk h (.ptr hb) fun w' _ => ?_
    rw [run, add_none, Nat.add_assoc, Nat.add_assoc]
  · rename_i row j
    cases hx
    rename_i hx
    cases hx
    rename_i ad cv hs' hM hb hone hcell hrp
    refine .mk h (.p (.irow hs' hM hb hone hcell hrp)) fun w' _ => ?_
    rw [run, add_none, Nat.add_assoc]
  · exact h.elim

theorem vfld_sound {x : AV} {v : Value} (hx : RA w ι x v) {k : AV → Prop} {t : TypeId} {fs : Array Field} {f sz : Nat} {ag : Bool} {fd : Field} (h : vfld x fd.offset sz ag k)
    (ht : P.underlying t = some (.struct fs)) (hf : fs[f]? = some fd) (hs : szT P fd.type = some sz) (hg : aggT P fd.type = some ag) : Vals P w ι k (Instr.field t v f) := by
  unfold vfld at h
  split at h
  · rename_i cells
    cases hx
    rename_i hx
    have hx' := hx
    cases hx
    obtain ⟨y, z, h2, h3, h4⟩ := part_sound hx' h hs hg
    exact .mk h2 h3 fun w' hw' => by simp [Instr.field, run_underlying ht, hf, asAgg, h4 w' hw']
  · rename_i cells
    have hx' := hx
    cases hx
    obtain ⟨y, z, h2, h3, h4⟩ := partA_sound hx' h hs hg
    exact .mk h2 h3 fun w' hw' => by simp [Instr.field, run_underlying ht, hf, asAgg, h4 w' hw']
  · exact h.elim

theorem vlenStr_sound {x : AV} {v : Value} (hx : RA w ι x v) {k : AV → Prop} (h : vlenStr x k) {t ty : TypeId}
    (ht : P.underlying t = some .string) : Vals P w ι k (Builtin.len_ #[t] ty #[v]) := by
  unfold vlenStr at h
  split at h
  · rename_i l
    rw [RA_str hx]
    exact .mk h (.p (.int _ _)) fun w' _ => by simp [Builtin.len_, run_underlying ht, goInt]; rfl
  · exact h.elim

theorem vlen_sound {x : AV} {v : Value} (hx : RA w ι x v) {k : AV → Prop} (h : vlen x k) {t e ty : TypeId}
    (ht : P.underlying t = some (.slice e)) : Vals P w ι k (Builtin.len_ #[t] ty #[v]) := by
  have slc : ∀ a n c w', (Builtin.len_ #[t] ty #[.slice a n c]).run P w' = .ok (.int .i64 n) w' := fun a n c w' => by
    simp [Builtin.len_, run_underlying ht, goInt]
  unfold vlen at h
  split at h
  · cases hx
    rename_i hx
    obtain ⟨oa, c, rfl, _⟩ := RP_isl hx
    exact .mk h (.p (.int _ _)) fun w' _ => slc _ _ _ w'
  · cases hx
    · exact .mk h (.p (.int _ _)) fun w' _ => slc _ _ _ w'
    · exact .mk h (.p (.int _ _)) fun w' _ => slc _ _ _ w'
  · cases hx
    · exact .mk h (.p (.int _ _)) fun w' _ => slc _ _ _ w'
    · exact .mk h (.p (.int _ _)) fun w' _ => slc _ _ _ w'
  · exact h.elim

end
end Hk
