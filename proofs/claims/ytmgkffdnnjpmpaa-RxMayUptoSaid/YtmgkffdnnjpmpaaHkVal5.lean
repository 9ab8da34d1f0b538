/- Hk, part 8: aggregates that are built, equality of aggregates; every value operation. -/
import Derived.Test.YtmgkffdnnjpmpaaHkVal4
namespace Hk
open Go
set_option linter.unusedVariables false
set_option linter.unusedSimpArgs false

section
variable {P : Program} {ι : Inj} {st : St} {a : Act} {w : World}

theorem cells_sound {x : AV} (hok : vok x = true) {v : Value} (h : RA w ι x v) : v.cells.size = (cellsOf x).length ∧
    ∀ (i : Nat) y, (cellsOf x)[i]? = some y → oneC (v.cells.getD i undef) = true ∧ RA w ι y (v.cells.getD i undef) := by
  have single : oneC v = true → (∀ cs, v ≠ .agg cs) → RA w ι x v → cellsOf x = [x] → v.cells.size = (cellsOf x).length ∧
      ∀ (i : Nat) y, (cellsOf x)[i]? = some y → oneC (v.cells.getD i undef) = true ∧ RA w ι y (v.cells.getD i undef) := by
    intro h1 h2 h3 h4
    have : v.cells = #[v] := by cases v <;> first | rfl | exact absurd rfl (h2 _)
    rw [this, h4]
    refine ⟨rfl, fun i y hy => ?_⟩
    cases i with
    | zero => simp at hy; subst hy; exact ⟨by simpa using h1, by simpa using h3⟩
    | succ i => simp at hy
  have h' := h
  cases h with
  | p hp =>
    rename_i x
    by_cases hx : ∃ l, x = .agg l
    · obtain ⟨l, rfl⟩ := hx
      obtain ⟨cs, rfl, hl, hone, hr⟩ := RP_agg hp
      refine ⟨by simp [Value.cells, cellsOf, hl], fun i y hy => ?_⟩
      simp [cellsOf] at hy
      obtain ⟨z, hz, rfl⟩ := hy
      exact ⟨(hr i z hz).oneCell (hone i z hz), .p (hr i z hz)⟩
    · have ho : x.one = true := by cases x <;> first | rfl | exact absurd ⟨_, rfl⟩ hx
      refine single (hp.oneCell ho) (fun cs hc => ?_) h' (by cases x <;> first | rfl | exact absurd ⟨_, rfl⟩ hx)
      subst hc
      have := hp.oneCell ho
      simp [oneC, Value.oneCell'] at this
  | und v => simp [vok] at hok
  | ptr hb => exact single rfl (by simp) h' rfl
  | sl hb hl hcap hs => exact single rfl (by simp) h' rfl
  | slz hcap => exact single rfl (by simp) h' rfl
  | csl hb hl => exact single rfl (by simp) h' rfl
  | cslz => exact single rfl (by simp) h' rfl
  | agg hl hone h => exact ⟨by simp [Value.cells, cellsOf, hl], fun i y hy => ⟨hone i y hy, h i y hy⟩⟩
  | tup hl h => simp [vok] at hok
  | fn h1 h2 h3 h4 => exact single rfl (by simp) h' rfl
  | ifc h => exact single rfl (by simp) h' rfl

theorem foldl_set (cells : Array Value) (vs : List Value) (off n : Nat) (i : Nat) :
    ((vs.zipIdx n).foldl (fun cs (c, j) => cs.setIfInBounds (off + j) c) cells)[i]? =
      if off + n ≤ i ∧ i < off + n + vs.length ∧ i < cells.size then vs[i - (off + n)]? else cells[i]? := by
  induction vs generalizing cells n with
  | nil => simp; omega
  | cons v r ih =>
    simp only [List.zipIdx_cons, List.foldl_cons]
    rw [ih]
    simp only [Array.size_setIfInBounds, List.length_cons]
    by_cases h1 : i = off + n
    · subst h1
      by_cases h2 : off + n < cells.size
      · rw [if_neg (by omega), if_pos (by omega)]
        simp [h2]
      · rw [if_neg (by omega), if_neg (by omega)]
        rw [Array.getElem?_eq_none (by simp; omega), Array.getElem?_eq_none (by omega)]
    · have hne : (cells.setIfInBounds (off + n) v)[i]? = cells[i]? := Array.getElem?_setIfInBounds_ne (Ne.symm h1)
      by_cases h2 : off + (n + 1) ≤ i ∧ i < off + (n + 1) + r.length ∧ i < cells.size
      · rw [if_pos h2, if_pos (by omega)]
        rw [show i - (off + n) = (i - (off + (n + 1))) + 1 by omega]
        simp
      · rw [if_neg h2, if_neg (by omega), hne]

theorem foldl_set_size (cells : Array Value) (vs : List Value) (off n : Nat) :
    ((vs.zipIdx n).foldl (fun cs (c, j) => cs.setIfInBounds (off + j) c) cells).size = cells.size := by
  induction vs generalizing cells n with
  | nil => rfl
  | cons v r ih => simp only [List.zipIdx_cons, List.foldl_cons]; rw [ih]; simp

theorem foldl_set_arr (cells : Array Value) (vs : Array Value) (off : Nat) :
    vs.zipIdx.foldl (fun cs (c, j) => cs.setIfInBounds (off + j) c) cells = (vs.toList.zipIdx 0).foldl (fun cs (c, j) => cs.setIfInBounds (off + j) c) cells := by
  rw [← Array.foldl_toList]
  simp [Array.toList_zipIdx]

/-- Cells that stand for values. -/
def CellsFor (w : World) (ι : Inj) (l : List AV) (cs : Array Value) : Prop :=
  cs.size = l.length ∧ ∀ (i : Nat) x, l[i]? = some x → oneC (cs.getD i undef) = true ∧ RA w ι x (cs.getD i undef)

theorem CellsFor.put {l : List AV} {cs : Array Value} (h : CellsFor w ι l cs) {xs : List AV} {vs : Array Value} (hv : CellsFor w ι xs vs) (off : Nat) (ho : off + xs.length ≤ l.length) :
    CellsFor w ι (l.take off ++ xs ++ l.drop (off + xs.length)) (vs.zipIdx.foldl (fun cs (c, j) => cs.setIfInBounds (off + j) c) cs) := by
  obtain ⟨h1, h2⟩ := h
  obtain ⟨h3, h4⟩ := hv
  refine ⟨?_, fun i x hx => ?_⟩
  · rw [foldl_set_arr, foldl_set_size]; simp; omega
  · have hg : (vs.zipIdx.foldl (fun cs (c, j) => cs.setIfInBounds (off + j) c) cs).getD i undef =
        if off ≤ i ∧ i < off + xs.length then vs.getD (i - off) undef else cs.getD i undef := by
      simp only [Array.getD_eq_getD_getElem?]
      rw [foldl_set_arr, foldl_set]
      simp only [Nat.add_zero, Array.length_toList, h3]
      by_cases hc : off ≤ i ∧ i < off + xs.length
      · rw [if_pos hc, if_pos ⟨hc.1, hc.2, by omega⟩]; simp
      · rw [if_neg hc, if_neg (fun h => hc ⟨h.1, h.2.1⟩)]
    rw [hg]
    by_cases hc : off ≤ i ∧ i < off + xs.length
    · rw [if_pos hc]
      apply h4
      rw [List.append_assoc, List.getElem?_append_right (by simp; omega), List.getElem?_append_left (by simp; omega)] at hx
      simpa [Nat.min_eq_left (show off ≤ l.length by omega)] using hx
    · rw [if_neg hc]
      apply h2
      by_cases hlt : i < off
      · rw [List.append_assoc, List.getElem?_append_left (by simp; omega), List.getElem?_take_of_lt hlt] at hx
        exact hx
      · rw [List.getElem?_append_right (by simp; omega)] at hx
        simp only [List.length_append, List.length_take, List.getElem?_drop] at hx
        rw [show off + xs.length + (i - (min off l.length + xs.length)) = i by omega] at hx
        exact hx

theorem fill_sound {place : Nat → Option (Nat × Nat)} {parts : List (Nat × Operand)} {ps : List (Nat × Nat × Opd)} (hp : cParts place parts = some ps)
    (tm : ∀ s, RA w ι (lk st.tmps s) (a.tmps.getD s undef)) {cells : List AV} {cs : Array Value} (hc : CellsFor w ι cells cs) {out : List AV}
    (hf : fillA cells (evParts st ps) = some out) : ∃ cs', Instr.fill place cs (parts.map fun (i, x) => (i, a.eval x)) = some cs' ∧ CellsFor w ι out cs' := by
  induction parts generalizing ps cells cs with
  | nil => simp [cParts] at hp; subst hp; simp [evParts, fillA] at hf; subst hf; exact ⟨cs, rfl, hc⟩
  | cons p r ih =>
    obtain ⟨i, x⟩ := p
    unfold cParts at hp
    split at hp
    · rename_i o s y l h1 h2 h3
      cases hp
      simp only [evParts, fillA] at hf
      cases hb : (vok (ev st y) && Nat.beq (cellsOf (ev st y)).length s && Nat.ble (o + s) cells.length) with
      | false => rw [hb] at hf; cases hf
      | true =>
        rw [hb] at hf
        simp only [cond_true] at hf
        simp only [Bool.and_eq_true] at hb
        obtain ⟨⟨hok, e1⟩, e2⟩ := hb
        have e1 := Nat.eq_of_beq_eq_true e1
        have e2 := Nat.le_of_ble_eq_true e2
        have hx := ev_sound tm h2
        obtain ⟨g1, g2⟩ := cells_sound hok hx
        have hcs : CellsFor w ι (cellsOf (ev st y)) (a.eval x).cells := ⟨g1, g2⟩
        have hput := hc.put hcs o (by rw [e1]; exact e2)
        rw [e1] at hput
        obtain ⟨cs', h4, h5⟩ := ih h3 hput hf
        refine ⟨cs', ?_, h5⟩
        simp only [List.map_cons, Instr.fill, h1]
        rw [if_neg]
        · exact h4
        · have := hc.1
          simp only [Bool.or_eq_true, decide_eq_true_eq, not_or]
          refine ⟨by simp [g1, e1], by omega⟩
    · cases hp

theorem zeroT_sound {t : TypeId} {z : List PV} (h : zeroT P t = some z) : ∃ i v, P.info? t = some i ∧ i.zero = some v ∧ CellsFor w ι (z.map .p) v.cells ∧
    (∀ (i : Nat) x, z[i]? = some x → x.one = true ∧ RP w ι.M x (v.cells.getD i undef)) ∧ v.cells.size = z.length := by
  unfold zeroT at h
  split at h
  · rename_i v hv
    obtain ⟨i, hi, hz⟩ := Option.bind_eq_some_iff.1 hv
    obtain ⟨h1, h2⟩ := pvL_sound (w := w) (M := ι.M) h
    have key : ∀ (i : Nat) x, z[i]? = some x → x.one = true ∧ RP w ι.M x (v.cells.getD i undef) := fun i x hx => by
      obtain ⟨h3, u, hu, hr⟩ := h2 i x hx
      have : v.cells.getD i undef = u := by
        simp only [Array.getD_eq_getD_getElem?]
        rw [← Array.getElem?_toList, hu]; rfl
      rw [this]
      exact ⟨h3, hr⟩
    refine ⟨i, v, hi, hz, ⟨by simp [h1], fun i x hx => ?_⟩, key, by simp [h1]⟩
    simp at hx
    obtain ⟨y, hy, rfl⟩ := hx
    obtain ⟨h3, hr⟩ := key i y hy
    exact ⟨hr.oneCell h3, .p hr⟩
  · cases h

theorem run_zeroValue {t : TypeId} {i : TypeInfo} {v : Value} (hi : P.info? t = some i) (hz : i.zero = some v) (w : World) : (zeroValue t).run P w = .ok v w := by
  simp [zeroValue, run_typeInfo hi, hz]

theorem run_mapM_sizes (fs : Array Field) (hs : ∀ f ∈ fs, ∃ s, szT P f.type = some s) (w : World) :
    (fs.mapM fun (f : Field) => do pure (f.offset, ← Go.sizeOf f.type)).run P w = .ok (fs.map fun (f : Field) => (f.offset, (szT P f.type).getD 0)) w := by
  have h : ∀ l : List Field, (∀ f ∈ l, ∃ s, szT P f.type = some s) → (l.mapM fun (f : Field) => do pure (f.offset, ← Go.sizeOf f.type)).run P w = .ok (l.map fun (f : Field) => (f.offset, (szT P f.type).getD 0)) w := by
    intro l
    induction l with
    | nil => intro _; rfl
    | cons f r ih =>
      intro hl
      obtain ⟨s, h1⟩ := hl f (by simp)
      simp only [List.mapM_cons, Sem.run_bind, run_sizeOf h1, Result.andThen_ok, Sem.run_pure, ih fun g hg => hl g (by simp [hg])]
      simp [h1]
  rw [Array.mapM_eq_mapM_toList]
  simp only [Sem.run_map]
  rw [h fs.toList fun f hf => hs f (by simpa using hf)]
  simp only [Result.andThen_ok]
  congr 1
  apply Array.ext'
  simp

theorem build_sound (tm : ∀ s, RA w ι (lk st.tmps s) (a.tmps.getD s undef)) {t : TypeId} {parts : Array (Nat × Operand)} {z : List PV} {ps : List (Nat × Nat × Opd)} {k : AV → Prop}
    (hz : zeroT P t = some z)
    (hp : (∃ fs, P.underlying t = some (.struct fs) ∧ fs.toList.all (fun f => (szT P f.type).isSome) = true ∧ cParts (fun i => (fs.map fun f => (f.offset, (szT P f.type).getD 0))[i]?) parts.toList = some ps) ∨
      ∃ n e s, P.underlying t = some (.array n e) ∧ szT P e = some s ∧ cParts (fun i => some (i * s, s)) parts.toList = some ps)
    (h : vbuild (fillA (z.map .p) (evParts st ps)) k) :
    Vals P w ι k (Instr.build t (parts.map fun (i, x) => (i, a.eval x))) := by
  obtain ⟨i, v, hi, hzv, hcf, _, _⟩ := zeroT_sound (w := w) (ι := ι) hz
  unfold vbuild at h
  split at h
  · rename_i l hl
    have go : ∀ place, cParts place parts.toList = some ps → ∃ cs', Instr.fill place v.cells ((parts.map fun (i, x) => (i, a.eval x)).toList) = some cs' ∧ CellsFor w ι l cs' := fun place hp => by
      have := fill_sound hp tm hcf hl
      simpa using this
    rcases hp with ⟨fs, hu, hall, hp⟩ | ⟨n, e, s, hu, hs, hp⟩
    · obtain ⟨cs', h1, h2⟩ := go _ hp
      refine .mk h (mkAgg_sound h2.1 (fun i x hx => (h2.2 i x hx).1) fun i x hx => (h2.2 i x hx).2) fun w' _ => ?_
      have hm := run_mapM_sizes (P := P) fs (fun f hf => by
        have := List.all_eq_true.1 hall f (by simpa using hf)
        exact Option.isSome_iff_exists.1 this) w'
      simp only [Instr.build, Sem.run_bind, run_zeroValue hi hzv, Result.andThen_ok, run_underlying hu, hm, h1, Sem.run_pure]
    · obtain ⟨cs', h1, h2⟩ := go _ hp
      refine .mk h (mkAgg_sound h2.1 (fun i x hx => (h2.2 i x hx).1) fun i x hx => (h2.2 i x hx).2) fun w' _ => ?_
      simp only [Instr.build, Sem.run_bind, run_zeroValue hi hzv, Result.andThen_ok, run_underlying hu, run_sizeOf hs, h1, Sem.run_pure]
  · exact h.elim

/-! #### Equality of aggregates of plain kinds -/

theorem sameK_mk {k : IntKind} {A : Prop} (h : A) : sameK k k A := by cases k <;> exact h

/-- A plain cell's value. -/
def valOf : PV → Value
  | .int k n => .int k n
  | .b x => .bool x
  | .str l => .string ⟨⟨l⟩⟩
  | _ => undef

def plainC : PV → Bool
  | .int _ _ => true
  | .b _ => true
  | .str _ => true
  | _ => false

theorem plain_val {M : Nat → Prop} {x : PV} {v : Value} (h : RP w M x v) (hp : plainC x = true) : v = valOf x := by
  cases h <;> first | rfl | (simp [plainC] at hp)

theorem plainCells_C {ks : List CK} {xs ys : List PV} (h : plainCells ks xs ys) : xs.length = ks.length ∧ ys.length = ks.length ∧ (∀ x ∈ xs, plainC x = true) ∧ ∀ y ∈ ys, plainC y = true := by
  induction ks generalizing xs ys with
  | nil => cases xs <;> cases ys <;> simp_all [plainCells]
  | cons k ks ih =>
    cases k <;> cases xs with
    | nil => simp [plainCells] at h
    | cons x r => cases ys with
      | nil => cases x <;> simp [plainCells] at h
      | cons y s =>
        cases x <;> cases y <;> simp only [plainCells] at h
        all_goals first
          | exact h.elim
          | (obtain ⟨_, h⟩ := sameK_of h; obtain ⟨_, h⟩ := sameK_of h; obtain ⟨h1, h2, h3, h4⟩ := ih h; simp [h1, h2, plainC]; exact ⟨h3, h4⟩)
          | (obtain ⟨h1, h2, h3, h4⟩ := ih h; simp [h1, h2, plainC]; exact ⟨h3, h4⟩)

theorem plainCells_append {ks ls : List CK} {xs ys : List PV} (h : plainCells (ks ++ ls) xs ys) :
    plainCells ks (xs.take ks.length) (ys.take ks.length) ∧ plainCells ls (xs.drop ks.length) (ys.drop ks.length) := by
  induction ks generalizing xs ys with
  | nil => simpa [plainCells] using h
  | cons k ks ih =>
    cases k <;> cases xs with
    | nil => simp [plainCells] at h
    | cons x r => cases ys with
      | nil => cases x <;> simp [plainCells] at h
      | cons y s =>
        cases x <;> cases y <;> simp only [List.cons_append, plainCells] at h
        all_goals first
          | exact h.elim
          | (obtain ⟨e1, h⟩ := sameK_of h; obtain ⟨e2, h⟩ := sameK_of h; obtain ⟨h1, h2⟩ := ih h
             simp only [List.length_cons, List.take_succ_cons, List.drop_succ_cons, plainCells]
             exact ⟨by subst e1; subst e2; exact sameK_mk (sameK_mk h1), h2⟩)
          | (obtain ⟨h1, h2⟩ := ih h; exact ⟨h1, h2⟩)

theorem cellsEq_append {xs ys xs' ys' : List PV} (h : xs.length = ys.length) : cellsEq (xs ++ xs') (ys ++ ys') = (cellsEq xs ys && cellsEq xs' ys') := by
  induction xs generalizing ys with
  | nil => cases ys with
    | nil => simp [cellsEq]
    | cons y s => simp at h
  | cons x r ih => cases ys with
    | nil => simp at h
    | cons y s => simp [cellsEq, ih (by simpa using h), Bool.and_assoc]

theorem cellsEq_take_drop (n : Nat) {xs ys : List PV} (h : xs.length = ys.length) : cellsEq xs ys = (cellsEq (xs.take n) (ys.take n) && cellsEq (xs.drop n) (ys.drop n)) := by
  conv => lhs; rw [← List.take_append_drop n xs, ← List.take_append_drop n ys]
  exact cellsEq_append (by simp [h])

/-- The value of a type that some cells make. -/
def valT (P : Program) (t : TypeId) (xs : List PV) : Value :=
  match aggT P t with
  | some true => .agg (xs.map valOf).toArray
  | _ => valOf (xs.headD (.b false))

theorem run_part_val {t : TypeId} {n : Nat} {g : Bool} (hs : szT P t = some n) (hg : aggT P t = some g) (h1 : g = false → n = 1) (xs : List PV) (off : Nat) (ho : off + n ≤ xs.length) (w : World) :
    (part t (xs.map valOf).toArray off).run P w = .ok (valT P t ((xs.drop off).take n)) w := by
  cases g with
  | true =>
    simp only [part, Sem.run_bind, run_isAgg hg, Result.andThen_ok, if_true, run_sizeOf hs, Sem.run_pure, valT, hg]
    congr 2
    apply Array.ext'
    simp [List.extract_eq_take_drop, List.map_take, List.map_drop]
  | false =>
    have := h1 rfl
    subst this
    have hlt : off < xs.length := by omega
    have hd : (xs.drop off).take 1 = [xs[off]] := by
      rw [List.drop_eq_getElem_cons hlt]; rfl
    simp [part, run_isAgg hg, hlt, valT, hg, hd]

theorem plainK_sz {d : Nat} {t : TypeId} {ks : List CK} (h : plainK P d t = some ks) : szT P t = some ks.length ∧ ∃ g, aggT P t = some g ∧ (g = false → ks.length = 1) := by
  cases d with
  | zero => simp [plainK] at h
  | succ d =>
    simp only [plainK] at h
    split at h
    · split at h
      · cases h; rename_i hu hs; exact ⟨hs, false, by simp [aggT, hu], fun _ => rfl⟩
      · cases h
    · split at h
      · cases h; rename_i hu hs; exact ⟨hs, false, by simp [aggT, hu], fun _ => rfl⟩
      · cases h
    · split at h
      · cases h; rename_i hu hs; exact ⟨hs, false, by simp [aggT, hu], fun _ => rfl⟩
      · cases h
    · split at h
      · split at h
        · cases h; rename_i hu _ _ _ hs; exact ⟨by rw [hs.2.2]; simp, true, by simp [aggT, hu], by simp⟩
        · cases h
      · cases h
    · split at h
      · cases h
      · split at h
        · split at h
          · cases h; rename_i hu _ _ _ hs; exact ⟨hs, true, by simp [aggT, hu], by simp⟩
          · cases h
        · cases h
    · cases h

/-- What is known of one type's equality. -/
def EqOk (P : Program) (D : Nat) (t : TypeId) (ks : List CK) : Prop :=
  ∀ (xs ys : List PV), plainCells ks xs ys → ∀ w : World, (Op.equalIn D t (valT P t xs) (valT P t ys)).run P w = .ok (cellsEq xs ys) w

theorem eqFields_plain {D : Nat} {sz : TypeId → Option (List CK)} (hk : ∀ t ks, sz t = some ks → EqOk P D t ks ∧ szT P t = some ks.length ∧ ∃ g, aggT P t = some g ∧ (g = false → ks.length = 1))
    (xs ys : List PV) : ∀ (fs : List Field) (off : Nat) (ks : List CK), plainF sz off fs = some ks → plainCells ks (xs.drop off) (ys.drop off) → ∀ w : World,
    (Op.eqFields D (xs.map valOf).toArray (ys.map valOf).toArray fs).run P w = .ok (cellsEq (xs.drop off) (ys.drop off)) w
  | [], off, ks, h, hp, w => by
    simp [plainF] at h; subst h
    obtain ⟨h1, h2, _⟩ := plainCells_C hp
    have e1 : xs.drop off = [] := List.eq_nil_of_length_eq_zero (by simpa using h1)
    have e2 : ys.drop off = [] := List.eq_nil_of_length_eq_zero (by simpa using h2)
    rw [e1, e2]
    simp [Op.eqFields, cellsEq]
  | f :: r, off, ks, h, hp, w => by
    simp only [plainF] at h
    split at h
    · cases h
    · rename_i hf
      split at h
      · rename_i k1 hk1
        split at h
        · cases h
        rename_i hz0
        split at h
        · rename_i ls hls
          cases h
          obtain ⟨h1, h2, g, hg, hg1⟩ := hk _ _ hk1
          obtain ⟨l1, l2, _⟩ := plainCells_C hp
          obtain ⟨p1, p2⟩ := plainCells_append hp
          simp only [List.length_append, List.length_drop] at l1 l2
          have hoff : f.offset = off := by
            by_cases h0 : f.offset = off
            · exact h0
            · exact absurd (.inr h0) hf
          have hname : f.name ≠ "_" := fun h0 => hf (.inl h0)
          have ih := eqFields_plain hk xs ys r (off + k1.length) ls hls (by rw [← List.drop_drop, ← List.drop_drop]; exact p2) w
          rw [← List.drop_drop, ← List.drop_drop] at ih
          have ha : k1.length ≤ xs.length - off ∧ k1.length ≤ ys.length - off := by omega
          have hb : off + k1.length ≤ xs.length ∧ off + k1.length ≤ ys.length := by omega
          simp only [Op.eqFields, if_pos hname, Sem.run_bind, hoff, run_part_val h2 hg hg1 xs off hb.1, run_part_val h2 hg hg1 ys off hb.2, Result.andThen_ok, h1 _ _ p1]
          rw [cellsEq_take_drop k1.length (by simp; omega : (xs.drop off).length = (ys.drop off).length)]
          cases hc : cellsEq ((xs.drop off).take k1.length) ((ys.drop off).take k1.length) with
          | false => simp
          | true => simpa using ih
        · cases h
      · cases h

theorem eqArr_plain {D : Nat} {e : TypeId} {k1 : List CK} (h1 : EqOk P D e k1) (h2 : szT P e = some k1.length) {g : Bool} (hg : aggT P e = some g) (hg1 : g = false → k1.length = 1) (hz : k1.length ≠ 0)
    (xs ys : List PV) : ∀ (m s : Nat), plainCells (List.replicate m k1).flatten (xs.drop (s * k1.length)) (ys.drop (s * k1.length)) → ∀ w : World,
    (forIn (List.range' s m) ((none, ()) : Option Bool × PUnit) fun i r => do
      let a ← part e (xs.map valOf).toArray (i * k1.length)
      let b ← part e (ys.map valOf).toArray (i * k1.length)
      let r ← Op.equalIn D e a b
      if (!r) = true then pure (ForInStep.done ((some false, ()) : Option Bool × PUnit)) else
        pure (ForInStep.yield (none, ()))).run P w = .ok (if cellsEq (xs.drop (s * k1.length)) (ys.drop (s * k1.length)) then (none, ()) else (some false, ())) w
  | 0, s, hp, w => by
    obtain ⟨l1, l2, _⟩ := plainCells_C hp
    have e1 : xs.drop (s * k1.length) = [] := List.eq_nil_of_length_eq_zero (by simpa using l1)
    have e2 : ys.drop (s * k1.length) = [] := List.eq_nil_of_length_eq_zero (by simpa using l2)
    rw [e1, e2]
    simp [cellsEq]
  | m + 1, s, hp, w => by
    rw [List.replicate_succ, List.flatten_cons] at hp
    obtain ⟨l1, l2, _⟩ := plainCells_C hp
    obtain ⟨p1, p2⟩ := plainCells_append hp
    simp only [List.length_append, List.length_drop] at l1 l2
    have hs : (s + 1) * k1.length = s * k1.length + k1.length := by rw [Nat.add_mul, Nat.one_mul]
    have ih := eqArr_plain h1 h2 hg hg1 hz xs ys m (s + 1) (by rw [hs, ← List.drop_drop, ← List.drop_drop]; exact p2) w
    rw [hs, ← List.drop_drop, ← List.drop_drop] at ih
    simp only [List.range'_succ, List.forIn_cons, Sem.run_bind]
    simp only [run_part_val h2 hg hg1 xs (s * k1.length) (by omega), run_part_val h2 hg hg1 ys (s * k1.length) (by omega), Result.andThen_ok, h1 _ _ p1]
    rw [cellsEq_take_drop k1.length (by simp; omega : (xs.drop (s * k1.length)).length = (ys.drop (s * k1.length)).length)]
    cases hc : cellsEq ((xs.drop (s * k1.length)).take k1.length) ((ys.drop (s * k1.length)).take k1.length) with
    | false => simp
    | true => simpa using ih

theorem equalIn_plain (d : Nat) : ∀ (t : TypeId) (ks : List CK), plainK P d t = some ks → ∀ (D : Nat), d ≤ D → EqOk P D t ks := by
  induction d with
  | zero => intro t ks h; simp [plainK] at h
  | succ d ih =>
    intro t ks h D hD xs ys hp w
    obtain ⟨D, rfl⟩ : ∃ m, D = m + 1 := ⟨D - 1, by omega⟩
    obtain ⟨hs, g, hg, hg1⟩ := plainK_sz h
    obtain ⟨hl1, hl2, hpx, hpy⟩ := plainCells_C hp
    simp only [plainK] at h
    split at h
    case h_1 hu =>
      split at h
      · cases h
        have hf : aggT P t = some false := by simp [aggT, hu]
        obtain ⟨x, rfl⟩ := List.length_eq_one_iff.1 hl1
        obtain ⟨y, rfl⟩ := List.length_eq_one_iff.1 hl2
        cases x <;> cases y <;> simp only [plainCells] at hp
        simp [valT, hf, valOf, Op.equalIn, run_underlying hu, cellsEq, cellEq]
      · cases h
    case h_2 k hu =>
      split at h
      · cases h
        have hf : aggT P t = some false := by simp [aggT, hu]
        obtain ⟨x, rfl⟩ := List.length_eq_one_iff.1 hl1
        obtain ⟨y, rfl⟩ := List.length_eq_one_iff.1 hl2
        cases x <;> cases y <;> simp only [plainCells] at hp
        obtain ⟨e1, hp⟩ := sameK_of hp
        obtain ⟨e2, hp⟩ := sameK_of hp
        subst e1; subst e2
        simp [valT, hf, valOf, Op.equalIn, run_underlying hu, cellsEq, cellEq]
      · cases h
    case h_3 hu =>
      split at h
      · cases h
        have hf : aggT P t = some false := by simp [aggT, hu]
        obtain ⟨x, rfl⟩ := List.length_eq_one_iff.1 hl1
        obtain ⟨y, rfl⟩ := List.length_eq_one_iff.1 hl2
        cases x <;> cases y <;> simp only [plainCells] at hp
        simp [valT, hf, valOf, Op.equalIn, run_underlying hu, cellsEq, cellEq, beq_toListBytes]
      · cases h
    case h_4 len e hu =>
      split at h
      · rename_i k1 hk1
        split at h
        · rename_i hsz
          cases h
          have ht : aggT P t = some true := by simp [aggT, hu]
          have ihe := ih e k1 hk1 D (by omega)
          obtain ⟨se, ge, hge, hge1⟩ := plainK_sz hk1
          have := eqArr_plain ihe se hge hge1 hsz.1 xs ys len 0 (by simpa using hp) w
          simp only [Nat.zero_mul, List.drop_zero] at this
          simp only [valT, ht]
          simp only [Op.equalIn, Sem.run_bind, run_underlying hu, Result.andThen_ok, run_sizeOf se]
          rw [Std.Legacy.Range.forIn_eq_forIn_range']
          have hsize : ([:len] : Std.Legacy.Range).size = len := by simp [Std.Legacy.Range.size]
          rw [hsize]
          show ((Sem.run P (forIn (List.range' 0 len 1) _ _) w).andThen _) = _
          rw [this]
          cases cellsEq xs ys <;> simp
        · cases h
      · cases h
    case h_5 fs hu =>
      split at h
      · cases h
      · rename_i hst
        split at h
        · rename_i k1 hk1
          split at h
          · cases h
            have ht : aggT P t = some true := by simp [aggT, hu]
            have hfs : P.fieldsOf t = fs := by simp [Program.fieldsOf, hu]
            simp only [valT, ht]
            rw [run_equalIn_struct w D t _ _ (by rw [hfs]; exact hu) (by simpa using hst), hfs]
            have := eqFields_plain (P := P) (D := D) (sz := plainK P d) (fun t ks h => ⟨ih t ks h D (by omega), plainK_sz h⟩) xs ys fs.toList 0 ks hk1 (by simpa using hp) w
            simpa using this
          · cases h
        · cases h
    case h_6 => cases h

end
end Hk
