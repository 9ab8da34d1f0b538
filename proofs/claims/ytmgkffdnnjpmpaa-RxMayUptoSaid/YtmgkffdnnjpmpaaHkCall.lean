/- Hk, part 18: contracts, and calls by them. -/
import Derived.Test.YtmgkffdnnjpmpaaHkWk
namespace Hk
open Go
set_option linter.unusedVariables false
set_option linter.unusedSimpArgs false

/-- Arguments, each by its value. -/
def RAL (w : World) (ι : Inj) (args : List AV) (vs : Array Value) : Prop := vs.size = args.length ∧ ∀ (i : Nat) x, args[i]? = some x → RA w ι x (vs.getD i undef)

/-- What a call of function f does, whatever else lies in memory. -/
def Fn (P : Program) : FC := fun f args H mv Post =>
  (∃ fn, P.funcs[f]? = some fn ∧ fn.name ≠ "runtime.NumGoroutine" ∧ fn.body.isSome = true) ∧
  ∀ (w : World) (ι : Inj) (vs : Array Value), (∀ c, ι.X c → c < w.heap.size) → HRel ι H w → RAL w ι args vs →
    Calls P f vs w fun e w' => ∃ r v ι' H', e = .returned v ∧ Post r H' ∧ H.length ≤ H'.length ∧ HRel ι' H' w' ∧ RA w' ι' r v ∧ ι'.X = ι.X ∧
      (∀ c (o : Obj), ¬ ι.I c → w.heap[c]? = some o → w'.heap[c]? = some o) ∧ w.heap.size ≤ w'.heap.size ∧ (∀ c, ι'.I c → ι.I c ∨ w.heap.size ≤ c) ∧
      (w'.os = w.os ∧ w'.output = w.output) ∧ ∀ b, b < H.length → memN mv b = false → ι' b = ι b

/-! #### Lists of block numbers -/

theorem memN_iff {l : List Nat} {n : Nat} : memN l n = true ↔ n ∈ l := by
  induction l with
  | nil => simp [memN]
  | cons x r ih => simp [memN, ih]; constructor <;> rintro (h | h) <;> simp_all

theorem memN_false {l : List Nat} {n : Nat} : memN l n = false ↔ n ∉ l := by
  rw [← memN_iff]; simp

theorem distinctN_nodup {l : List Nat} (h : distinctN l = true) : l.Nodup := by
  induction l with
  | nil => simp
  | cons x r ih =>
    simp only [distinctN, Bool.and_eq_true, Bool.not_eq_true'] at h
    exact List.nodup_cons.2 ⟨memN_false.1 h.1, ih h.2⟩

theorem disjN_spec {l m : List Nat} (h : disjN l m = true) : ∀ x ∈ m, x ∉ l := by
  induction m with
  | nil => simp
  | cons y r ih =>
    simp only [disjN, Bool.and_eq_true, Bool.not_eq_true'] at h
    intro x hx
    rcases List.mem_cons.1 hx with rfl | hx
    · exact memN_false.1 h.1
    · exact ih h.2 x hx

theorem liveIds_spec {h : List Blk} {l : List Nat} (hl : liveIds h l = true) : ∀ b ∈ l, nth .dead h b ≠ .dead := by
  induction l with
  | nil => simp
  | cons y r ih =>
    simp only [liveIds, Bool.and_eq_true] at hl
    intro x hx
    rcases List.mem_cons.1 hx with rfl | hx
    · intro e; rw [e] at hl; simp at hl
    · exact ih hl.2 x hx

theorem boundedN_spec {n : Nat} {l : List Nat} (h : boundedN n l = true) : ∀ b ∈ l, b < n := by
  induction l with
  | nil => simp
  | cons y r ih =>
    simp only [boundedN, Bool.and_eq_true, Nat.blt_eq] at h
    intro x hx
    rcases List.mem_cons.1 hx with rfl | hx
    · exact h.1
    · exact ih h.2 x hx

theorem allFree_spec {fx : Nat → Bool} {l : List Nat} (h : allFree fx l = true) : ∀ b ∈ l, fx b = false := by
  induction l with
  | nil => simp
  | cons y r ih =>
    simp only [allFree, Bool.and_eq_true, Bool.not_eq_true'] at h
    intro x hx
    rcases List.mem_cons.1 hx with rfl | hx
    · exact h.1
    · exact ih h.2 x hx

theorem renB_lt {ids : List Nat} {n b : Nat} (h : b < ids.length) : renB ids n b = nth 0 ids b := by
  induction ids generalizing b with
  | nil => simp at h
  | cons x r ih => cases b with
    | zero => rfl
    | succ b => simp [renB, nth]; exact ih (by simpa using h)

theorem renB_ge {ids : List Nat} {n b : Nat} (h : ids.length ≤ b) : renB ids n b = n + (b - ids.length) := by
  induction ids generalizing b with
  | nil => rfl
  | cons x r ih => cases b with
    | zero => simp at h
    | succ b => simp [renB]; exact ih (by simpa using h)

theorem nth_mem {ids : List Nat} {b : Nat} (h : b < ids.length) : nth 0 ids b ∈ ids := by
  rw [nth_eq, List.getElem?_eq_getElem h]; exact List.getElem_mem h

/-- The place of a number in a list. -/
def idxN : List Nat → Nat → Nat
  | [], _ => 0
  | x :: r, n => if x = n then 0 else idxN r n + 1

theorem idxN_spec {l : List Nat} {n : Nat} (h : n ∈ l) : idxN l n < l.length ∧ nth 0 l (idxN l n) = n := by
  induction l with
  | nil => cases h
  | cons x r ih =>
    unfold idxN
    by_cases e : x = n
    · simp [e, nth]
    · rw [if_neg e]
      have := ih ((List.mem_cons.1 h).resolve_left (Ne.symm e))
      simp [nth, this]

theorem idxN_nth {l : List Nat} (hd : l.Nodup) {k : Nat} (h : k < l.length) : idxN l (nth 0 l k) = k := by
  induction l generalizing k with
  | nil => simp at h
  | cons x r ih =>
    obtain ⟨h1, h2⟩ := List.nodup_cons.1 hd
    cases k with
    | zero => simp [nth, idxN]
    | succ k =>
      have hk : k < r.length := by simpa using h
      have e0 : nth 0 (x :: r) (k + 1) = nth 0 r k := rfl
      rw [e0]
      unfold idxN
      rw [if_neg, ih h2 hk]
      intro e
      exact h1 (e ▸ nth_mem hk)

theorem renL_get (ids : List Nat) (n : Nat) (l : List AV) (i : Nat) : (AV.renL ids n l)[i]? = (l[i]?).map (AV.ren ids n) := by
  induction l generalizing i with
  | nil => simp [AV.renL]
  | cons x r ih => cases i <;> simp [AV.renL, ih]

theorem renL_len (ids : List Nat) (n : Nat) (l : List AV) : (AV.renL ids n l).length = l.length := by
  induction l with
  | nil => rfl
  | cons x r ih => simp [AV.renL, ih]

theorem renH_nth (ids : List Nat) (n : Nat) (h : List Blk) (b : Nat) : nth .dead (renH ids n h) b = (nth .dead h b).ren ids n := by
  induction h generalizing b with
  | nil => rfl
  | cons x r ih => cases b with
    | zero => rfl
    | succ b => simp [renH, nth, ih]

theorem renH_len (ids : List Nat) (n : Nat) (h : List Blk) : (renH ids n h).length = h.length := by
  induction h with
  | nil => rfl
  | cons x r ih => simp [renH, ih]

theorem getIds_nth (h : List Blk) (ids : List Nat) (b : Nat) (hb : b < ids.length) : nth .dead (getIds h ids) b = nth .dead h (nth 0 ids b) := by
  induction ids generalizing b with
  | nil => simp at hb
  | cons x r ih => cases b with
    | zero => rfl
    | succ b => simp [getIds, nth]; exact ih b (by simpa using hb)

theorem backH_len (h : List Blk) : ∀ (ids : List Nat) (new : List Blk), ids.length ≤ new.length → (backH h ids new).length = h.length + (new.length - ids.length) := by
  intro ids
  induction ids generalizing h with
  | nil => intro new _; simp [backH]
  | cons i r ih =>
    intro new hl
    cases new with
    | nil => simp at hl
    | cons x s =>
      simp only [backH]
      rw [ih _ s (by simpa using hl)]
      simp [setNth_eq]

theorem backH_nth (h : List Blk) : ∀ (ids : List Nat) (new : List Blk) (b : Nat), ids.Nodup → (∀ i ∈ ids, i < h.length) → ids.length ≤ new.length →
    nth .dead (backH h ids new) b = if b ∈ ids then nth .dead new (idxN ids b) else if h.length ≤ b then nth .dead new (ids.length + (b - h.length)) else nth .dead h b := by
  intro ids
  induction ids generalizing h with
  | nil =>
    intro new b _ _ _
    simp only [backH, List.not_mem_nil, if_false, List.length_nil, Nat.zero_add]
    rw [nth_eq, nth_eq, nth_eq, List.getElem?_append]
    by_cases hb : b < h.length
    · rw [if_pos hb, if_neg (by omega)]
    · rw [if_neg hb, if_pos (by omega)]
  | cons i r ih =>
    intro new b hd hlt hl
    obtain ⟨h1, h2⟩ := List.nodup_cons.1 hd
    cases new with
    | nil => simp at hl
    | cons x s =>
      have hi : i < h.length := hlt i (by simp)
      simp only [backH]
      rw [ih (setNth h i x) s b h2 (fun j hj => by rw [setNth_eq, List.length_set]; exact hlt j (by simp [hj])) (by simpa using hl)]
      have hlen : (setNth h i x).length = h.length := by rw [setNth_eq, List.length_set]
      rw [hlen]
      by_cases e : b = i
      · subst e
        rw [if_neg h1, if_neg (by omega), if_pos (by simp), nth_setNth _ _ _ _ _ hi, if_pos rfl]
        simp [idxN, nth]
      · by_cases hm : b ∈ r
        · rw [if_pos hm, if_pos (by simp [hm])]
          simp [idxN, Ne.symm e, nth]
        · have hm' : ¬ b ∈ i :: r := by simp [e, hm]
          simp only [if_neg hm, if_neg hm']
          by_cases hge : h.length ≤ b
          · rw [if_pos hge, if_pos hge]
            simp only [List.length_cons]
            rw [show r.length + 1 + (b - h.length) = (r.length + (b - h.length)) + 1 by omega]
            rfl
          · rw [if_neg hge, if_neg hge, nth_setNth _ _ _ _ _ hi, if_neg e]

/-! #### Values under another numbering -/

/-- From the caller's numbers back to the callee's. -/
theorem RA.unren {w : World} {ι ιc : Inj} {ids : List Nat} {n : Nat} (hm : ∀ b p, ι (renB ids n b) = some p → ιc b = some p) (hM : ∀ c, ιc.M c → ι.M c) :
    ∀ (x : AV) {v : Value}, RA w ι (AV.ren ids n x) v → RA w ιc x v := by
  have hL : Later ι.M w w ιc.M := ⟨fun _ _ _ h => h, fun c hc => .inl (hM c hc), Nat.le_refl _⟩
  have main : ∀ (y : AV) {v : Value}, RA w ι y v → ∀ x, y = AV.ren ids n x → RA w ιc x v := by
    intro y v h
    induction h with
    | p hp => intro x e; cases x <;> simp only [AV.ren] at e <;> first | (cases e; exact .p (hp.later hL)) | (cases e)
    | und v => intro x e; cases x <;> simp only [AV.ren] at e <;> first | exact .und _ | (cases e)
    | ptr hb => intro x e; cases x <;> simp only [AV.ren] at e <;> first | (cases e; exact .ptr (hm _ _ hb)) | (cases e)
    | sl hb hl hcap hs => intro x e; cases x <;> simp only [AV.ren] at e <;> first | (cases e; exact .sl (hm _ _ hb) hl hcap hs) | (cases e)
    | slz hcap => intro x e; cases x <;> simp only [AV.ren] at e <;> first | (cases e; exact .slz hcap) | (cases e)
    | csl hb hl => intro x e; cases x <;> simp only [AV.ren] at e <;> first | (cases e; exact .csl (hm _ _ hb) hl) | (cases e)
    | cslz => intro x e; cases x <;> simp only [AV.ren] at e <;> first | (cases e; exact .cslz) | (cases e)
    | agg hl hone h ih =>
      intro x e
      cases x <;> simp only [AV.ren] at e <;> first | (cases e; done) | skip
      rename_i l
      cases e
      refine .agg (by rw [hl, renL_len]) (fun i y hy => hone i (AV.ren ids n y) (by rw [renL_get, hy]; rfl)) (fun i y hy => ih i (AV.ren ids n y) (by rw [renL_get, hy]; rfl) y rfl)
    | tup hl h ih =>
      intro x e
      cases x <;> simp only [AV.ren] at e <;> first | (cases e; done) | skip
      rename_i l
      cases e
      refine .tup (by rw [hl, renL_len]) (fun i y hy => ih i (AV.ren ids n y) (by rw [renL_get, hy]; rfl) y rfl)
    | fn h1 h2 h3 h4 ih3 ih4 =>
      intro x e
      cases x <;> simp only [AV.ren] at e <;> first | (cases e; done) | skip
      cases e
      refine .fn (by rw [h1, renL_len]) (by rw [h2, renL_len]) (fun i y hy => ih3 i (AV.ren ids n y) (by rw [renL_get, hy]; rfl) y rfl) (fun i y hy => ih4 i (AV.ren ids n y) (by rw [renL_get, hy]; rfl) y rfl)
    | ifc h ih =>
      intro x e
      cases x <;> simp only [AV.ren] at e <;> first | (cases e; done) | skip
      cases e
      exact .ifc (ih _ rfl)
  exact fun x v h => main _ h x rfl

/-- From the callee's numbers to the caller's. -/
theorem RA.ren {w : World} {ι ιc : Inj} {ids : List Nat} {n : Nat} (hm : ∀ b p, ιc b = some p → ι (renB ids n b) = some p) (hM : ∀ c, ι.M c → ιc.M c) {x : AV} {v : Value} (h : RA w ιc x v) :
    RA w ι (AV.ren ids n x) v := by
  have hL : Later ιc.M w w ι.M := ⟨fun _ _ _ h => h, fun c hc => .inl (hM c hc), Nat.le_refl _⟩
  induction h with
  | p hp => exact .p (hp.later hL)
  | und v => exact .und v
  | ptr hb => exact .ptr (hm _ _ hb)
  | sl hb hl hcap hs => exact .sl (hm _ _ hb) hl hcap hs
  | slz hcap => exact .slz hcap
  | csl hb hl => exact .csl (hm _ _ hb) hl
  | cslz => exact .cslz
  | agg hl hone h ih =>
    refine .agg (by rw [hl, renL_len]) (fun i y hy => ?_) (fun i y hy => ?_)
    all_goals
      rw [renL_get] at hy
      obtain ⟨z, hz, rfl⟩ := Option.map_eq_some_iff.1 hy
    · exact hone i z hz
    · exact ih i z hz
  | tup hl h ih =>
    refine .tup (by rw [hl, renL_len]) (fun i y hy => ?_)
    rw [renL_get] at hy
    obtain ⟨z, hz, rfl⟩ := Option.map_eq_some_iff.1 hy
    exact ih i z hz
  | fn h1 h2 h3 h4 ih3 ih4 =>
    refine .fn (by rw [h1, renL_len]) (by rw [h2, renL_len]) (fun i y hy => ?_) (fun i y hy => ?_)
    all_goals
      rw [renL_get] at hy
      obtain ⟨z, hz, rfl⟩ := Option.map_eq_some_iff.1 hy
    · exact ih3 i z hz
    · exact ih4 i z hz
  | ifc h ih => exact .ifc ih

theorem flatPL_mem {l : List PV} (h : flatPL l = true) : ∀ x ∈ l, flatP x = true := by
  induction l with
  | nil => simp
  | cons y r ih =>
    simp only [flatPL, Bool.and_eq_true] at h
    intro x hx
    rcases List.mem_cons.1 hx with rfl | hx
    · exact h.1
    · exact ih h.2 x hx

theorem flatVL_mem {l : List AV} (h : flatVL l = true) : ∀ x ∈ l, flatV x = true := by
  induction l with
  | nil => simp
  | cons y r ih =>
    simp only [flatVL, Bool.and_eq_true] at h
    intro x hx
    rcases List.mem_cons.1 hx with rfl | hx
    · exact h.1
    · exact ih h.2 x hx

theorem RP.flat {w w' : World} {M M' : Nat → Prop} {x : PV} {v : Value} (h : RP w M x v) : flatP x = true → RP w' M' x v := by
  induction h with
  | int k n => intro _; exact .int k n
  | b x => intro _; exact .b x
  | str l => intro _; exact .str l
  | lit v h => intro _; exact .lit v h
  | nil h => intro hf; simp [flatP] at hf
  | isl => intro hf; simp [flatP] at hf
  | irow => intro hf; simp [flatP] at hf
  | agg hl hone h ih =>
    intro hf
    simp only [flatP] at hf
    exact .agg hl hone fun i x hx => ih i x hx (flatPL_mem hf _ (List.mem_of_getElem? hx))
  | fn h1 h2 h3 h4 ih3 ih4 =>
    intro hf
    simp only [flatP, Bool.and_eq_true] at hf
    exact .fn h1 h2 (fun i x hx => ih3 i x hx (flatPL_mem hf.1 _ (List.mem_of_getElem? hx))) (fun i x hx => ih4 i x hx (flatPL_mem hf.2 _ (List.mem_of_getElem? hx)))
  | ifc h ih => intro hf; simp only [flatP] at hf; exact .ifc (ih hf)

theorem RA.flat {w w' : World} {ι ι' : Inj} {x : AV} {v : Value} (h : RA w ι x v) : flatV x = true → ∀ ids n, RA w' ι' (AV.ren ids n x) v := by
  induction h with
  | p h => intro hf ids n; exact .p (h.flat hf)
  | tup hl h ih =>
    intro hf ids n
    simp only [flatV] at hf
    refine .tup (by rw [hl, renL_len]) (fun i y hy => ?_)
    rw [renL_get] at hy
    obtain ⟨z, hz, rfl⟩ := Option.map_eq_some_iff.1 hy
    exact ih i z hz (flatVL_mem hf _ (List.mem_of_getElem? hz)) ids n
  | _ => intro hf; simp [flatV] at hf

end Hk
