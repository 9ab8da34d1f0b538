/- Hk, part 7: what is cut, converted, built; equality of bools and pointers. -/
import Derived.Test.YtmgkffdnnjpmpaaHkVal3
namespace Hk
open Go
set_option linter.unusedVariables false
set_option linter.unusedSimpArgs false

section
variable {P : Program} {ι : Inj} {st : St} {a : Act} {w : World}

theorem vslcA_sound (tm : ∀ s, RA w ι (lk st.tmps s) (a.tmps.getD s undef)) {x : AV} {v : Value} (hx : RA w ι x v) {lo hi mx : Option Operand} {lo' hi' mx' : Option Opd}
    (hlo : cOpdO lo = some lo') (hhi : cOpdO hi = some hi') (hmx : cOpdO mx = some mx') (hmh : (mx'.isSome && hi'.isNone) = false) {len esz : Nat} {k : AV → Prop}
    (h : vslcA x (lo'.map (ev st)) (hi'.map (ev st)) (mx'.map (ev st)) len esz k) {t e : TypeId} (ht : P.underlying t = some (.array len e)) (hs : szT P e = some esz) :
    Vals P w ι k (Instr.sliceAt t v (lo.map a.eval) (hi.map a.eval) (mx.map a.eval)) := by
  have hih : hi = none → mx = none := by
    intro h1; subst h1
    simp [cOpdO] at hhi; subst hhi
    cases mx with
    | none => rfl
    | some x => simp only [cOpdO] at hmx; obtain ⟨y, _, rfl⟩ := Option.map_eq_some_iff.1 hmx; simp at hmh
  unfold vslcA at h
  split at h
  · rename_i b wd i j
    obtain ⟨l, h, el⟩ := vbnd_sound tm hlo h
    obtain ⟨hh, h, eh⟩ := vbnd_sound tm hhi h
    obtain ⟨m, h, em⟩ := vbnd_sound tm hmx h
    obtain ⟨⟨h0, h1, h2, h3⟩, hk⟩ := h
    cases hx
    rename_i c o s hb
    have hrun : ∀ w', (Instr.sliceAt t (.pointer (some ⟨c, o + (i * wd + j), none⟩)) (lo.map a.eval) (hi.map a.eval) (mx.map a.eval)).run P w' =
        .ok (.slice (some (if m.toNat = l.toNat then ⟨c, o + (i * wd + j), none⟩ else (⟨c, o + (i * wd + j), none⟩ : Addr).add (l.toNat * esz))) (hh.toNat - l.toNat) (m.toNat - l.toNat)) w' := fun w' => by
      simp [Instr.sliceAt, run_underlying ht, Instr.sureAddr, run_sizeOf hs,
        run_sliceBounds (P := P) false len len lo hi mx l hh m w' (el.imp (fun h => ⟨h.1, h.2.2⟩) id) (eh.imp (fun h => ⟨h.1, h.2.2, hih h.1⟩) id) (em.imp (fun h => ⟨h.1, h.2.2⟩) id) h0 h1 h2 h3]
    by_cases hz : hh.toNat - l.toNat = 0
    · rw [hz] at hk
      refine .mk (v := .slice (some (if m.toNat = l.toNat then ⟨c, o + (i * wd + j), none⟩ else (⟨c, o + (i * wd + j), none⟩ : Addr).add (l.toNat * esz))) 0 (m.toNat - l.toNat)) hk .cslz fun w' _ => ?_
      rw [hrun, hz]
    · refine .mk hk (.csl (cc := m.toNat - l.toNat) hb (by omega)) fun w' _ => ?_
      rw [hrun, if_neg (by omega), add_none, Nat.add_assoc, Nat.add_assoc]
  · exact h.elim

theorem bytes_extract (l : List UInt8) (i j : Nat) : (⟨⟨l⟩⟩ : ByteArray).extract i j = ⟨⟨(l.drop i).take (j - i)⟩⟩ := by
  apply ByteArray.ext
  simp [ByteArray.data_extract, List.extract_eq_take_drop]

theorem vslcStr_sound (tm : ∀ s, RA w ι (lk st.tmps s) (a.tmps.getD s undef)) {x : AV} {v : Value} (hx : RA w ι x v) {lo hi : Option Operand} {lo' hi' : Option Opd}
    (hlo : cOpdO lo = some lo') (hhi : cOpdO hi = some hi') {k : AV → Prop}
    (h : vslcStr x (lo'.map (ev st)) (hi'.map (ev st)) k) {t : TypeId} (ht : P.underlying t = some .string) :
    Vals P w ι k (Instr.sliceAt t v (lo.map a.eval) (hi.map a.eval) none) := by
  unfold vslcStr at h
  split at h
  · rename_i s
    obtain ⟨l, h, el⟩ := vbnd_sound tm hlo h
    obtain ⟨hh, h, eh⟩ := vbnd_sound tm hhi h
    obtain ⟨⟨h0, h1, h2⟩, hk⟩ := h
    rw [RA_str hx]
    refine .mk hk (.p (.str _)) fun w' _ => ?_
    have e : (⟨⟨s⟩⟩ : ByteArray).size = s.length := rfl
    have := run_sliceBounds (P := P) (a := a) false s.length s.length lo hi none l hh s.length w' (el.imp (fun h => ⟨h.1, h.2.2⟩) id) (eh.imp (fun h => ⟨h.1, h.2.2, rfl⟩) id) (.inl ⟨rfl, rfl⟩) h0 h1 (by omega) (by omega)
    simp only [Option.map_none] at this
    rw [dropN_eq]
    simp only [Instr.sliceAt, Sem.run_bind, run_underlying ht, Result.andThen_ok, Instr.slice, e, Option.isSome_none, Bool.false_eq_true, if_false, this, bytes_extract, Sem.run_pure]
  · exact h.elim

/-- What a slice holds, row by row, at its place. -/
def RowsAt (w : World) (M : Nat → Prop) (v : Value) (esz : Nat) (rows : List (List PV)) : Prop :=
  ∃ oa cap, v = .slice oa rows.length cap ∧ (rows = [] ∨ ∃ ad : Addr, oa = some ad ∧ ad.spot = none ∧
    ∀ (i : Nat) row, rows[i]? = some row → row.length = esz ∧ RowAt w M ad.block (ad.off + i * esz) row)

theorem vslices_sound {h : List Blk} (hr : HRel ι h w) {x : AV} {v : Value} (hx : RA w ι x v) {esz : Nat} {k : List (List PV) → Prop} (hv : vslices h x esz k) :
    ∃ rows, k rows ∧ RowsAt w ι.M v esz rows := by
  unfold vslices at hv
  split at hv
  · rename_i wd rows cap
    cases hw : (Nat.beq wd esz || rows.isEmpty) with
    | false => rw [hw] at hv; exact hv.elim
    | true =>
      rw [hw] at hv
      have hwd : wd = esz ∨ rows = [] := by simp at hw; exact hw.imp (fun h => h) (fun h => h)
      cases hx
      rename_i hx
      obtain ⟨oa, c, rfl, hc, hcap, hr⟩ := RP_isl hx
      refine ⟨rows, hv, ⟨oa, c, rfl, ?_⟩⟩
      rcases hwd with rfl | h0
      · exact hr.imp id fun ⟨ad, h1, h2, h3, h4, h5⟩ => ⟨ad, h1, h2, h5⟩
      · exact .inl h0
  · rename_i b wd i len cap
    split at hv
    · rename_i wd' rows hn
      cases hw : (Nat.beq wd wd' && Nat.beq wd esz) with
      | false => rw [hw] at hv; exact hv.elim
      | true =>
        rw [hw] at hv
        obtain ⟨e1, e2⟩ := by simpa using hw
        subst e1; subst e2
        obtain ⟨rs, hrs, hlen, hk⟩ := hv
        cases hx with
        | sl hb hl hcap hs' =>
          rename_i c o s cc
          refine ⟨rs, hk, ⟨_, _, by rw [hlen], .inr ⟨_, rfl, rfl, fun n row hi => ?_⟩⟩⟩
          rw [dropN_eq] at hrs
          have hi' : rows[i + n]? = some row := by
            have : ((rows.drop i).take len)[n]? = some row := by rw [hrs]; exact hi
            rw [List.getElem?_take] at this
            split at this
            · rwa [List.getElem?_drop] at this
            · cases this
          obtain ⟨h1, h2⟩ := hr.row hb hn hi'
          exact ⟨h1, h2.later (by simp [Nat.add_mul, Nat.add_assoc])⟩
        | slz hcap =>
          have : rs = [] := List.eq_nil_of_length_eq_zero hlen
          subst this
          exact ⟨[], hk, ⟨_, _, rfl, .inl rfl⟩⟩
    · exact hv.elim
  · rename_i b wd i j e len
    split at hv
    · rename_i wd' rows hn
      cases hw : (Nat.beq wd wd' && Nat.beq e esz && Nat.beq e 1) with
      | false => rw [hw] at hv; exact hv.elim
      | true =>
        rw [hw] at hv
        obtain ⟨⟨e1, e2⟩, e3⟩ := by simpa using hw
        subst e1; subst e2; subst e3
        obtain ⟨row, rs, hrow, hrs, hlen, hk⟩ := hv
        cases hx with
        | csl hb hl =>
          rename_i c o s cc
          refine ⟨rs, hk, ⟨_, _, by rw [hlen], .inr ⟨_, rfl, rfl, fun n r hi => ?_⟩⟩⟩
          rw [dropN_eq] at hrs
          obtain ⟨h1, h2⟩ := hr.row hb hn hrow
          have : (((row.drop j).take len).map fun x => [x])[n]? = some r := by rw [hrs]; exact hi
          rw [List.getElem?_map, List.getElem?_take] at this
          split at this
          · rw [List.getElem?_drop] at this
            obtain ⟨y, hy, rfl⟩ := Option.map_eq_some_iff.1 this
            refine ⟨rfl, fun q z hz => ?_⟩
            cases q with
            | zero =>
              simp at hz; subst hz
              obtain ⟨h3, v, h4, h5⟩ := h2 _ _ hy
              refine ⟨h3, v, ?_, h5⟩
              rw [← h4]; congr 2; simp [Nat.add_assoc]
            | succ q => simp at hz
          · simp at this
        | cslz =>
          have : rs = [] := List.eq_nil_of_length_eq_zero hlen
          subst this
          exact ⟨[], hk, ⟨_, _, rfl, .inl rfl⟩⟩
    · exact hv.elim
  · exact hv.elim

theorem vrows_sound {h : List Blk} (hr : HRel ι h w) {x : AV} {v : Value} (hx : RA w ι x v) {esz : Nat} {k : List (List PV) → Prop} (hv : vrows h x esz k) :
    ∃ rows, k rows ∧ ((∃ l, x = .p (.str l) ∧ v = .string ⟨⟨l⟩⟩ ∧ rows = l.map encByte ∧ esz = 1) ∨ RowsAt w ι.M v esz rows) := by
  unfold vrows at hv
  split at hv
  · rename_i l
    cases hw : Nat.beq esz 1 with
    | false => rw [hw] at hv; exact hv.elim
    | true =>
      rw [hw] at hv
      exact ⟨_, hv, .inl ⟨l, rfl, RA_str hx, rfl, Nat.eq_of_beq_eq_true hw⟩⟩
  · obtain ⟨rows, h1, h2⟩ := vslices_sound hr hx hv
    exact ⟨rows, h1, .inr h2⟩

theorem strOf_sound {h : List Blk} (hr : HRel ι h w) {x : AV} {v : Value} (hx : RA w ι x v) {k : AV → Prop}
    (hv : vslices h x 1 fun rows => ∃ l : List UInt8, rows = l.map encByte ∧ k (.p (.str l))) {t d e : TypeId} (ht : P.underlying t = some (.slice e)) (he : P.underlying e = some (.int .u8))
    (hd : P.underlying d = some .string) : Vals P w ι k (convert t d v) := by
  obtain ⟨rows, ⟨l, rfl, hk⟩, hrows⟩ := vslices_sound hr hx hv
  obtain ⟨oa, cap, rfl, hro⟩ := hrows
  · refine .mk hk (.p (.str l)) fun w' hw' => ?_
    rw [run_convert_bytes_string w' t d e _ _ _ ht he hd]
    rcases hro with h0 | ⟨ad, rfl, hs, hrow⟩
    · have : l = [] := by simpa using h0
      subst this
      cases oa with
      | none => rfl
      | some ad =>
        have := run_bytesToString (P := P) w' ad 0 cap [] (by simp [loadCells, loadCellsFrom])
        exact (by simpa using this : _ = Result.ok (Value.string ByteArray.empty) w')
    · have hcell : ∀ i b, l[i]? = some b → w.cell? (ad.add i) = some (.int .u8 b.toNat) := by
        intro i b hb
        obtain ⟨_, h2⟩ := hrow i (encByte b) (by simp [hb])
        obtain ⟨_, v, h3, h4⟩ := h2 0 (.int .u8 b.toNat) rfl
        cases h4
        rw [add_spot hs]
        simpa using h3
      have hl := run_loadCells_list (P := P) w' ad ((l.map fun b => (b.toNat : Int)).map (Value.int .u8)) (fun j v hv => by
        simp at hv
        obtain ⟨b, hb, rfl⟩ := hv
        exact hw'.cell (hcell j b hb))
      have := run_bytesToString (P := P) w' ad l.length cap (l.map fun b => (b.toNat : Int)) (by simpa using hl)
      simp only [List.length_map]
      rw [this, foldl_push_bytes]
      congr 2
      apply ByteArray.ext
      simp [List.map_map, Function.comp_def]

end
end Hk
