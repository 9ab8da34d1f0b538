/- Hk, part 10: a block is laid, written, moved, given up. -/
import Derived.Test.YtmgkffdnnjpmpaaHkVal6
namespace Hk
open Go
set_option linter.unusedVariables false
set_option linter.unusedSimpArgs false

def Inj.upd (ι : Inj) (b : Nat) (p : Option (Nat × Nat × Nat)) : Inj := ⟨fun n => if n = b then p else ι n, ι.X⟩

theorem Inj.upd_self (ι : Inj) (b : Nat) (p : Option (Nat × Nat × Nat)) : ι.upd b p b = p := by simp [Inj.upd]
theorem Inj.upd_ne (ι : Inj) {b n : Nat} (p : Option (Nat × Nat × Nat)) (h : n ≠ b) : ι.upd b p n = ι n := by simp [Inj.upd, h]

/-- A block's content, in cells from an offset on. -/
def BlkAt (w : World) (ι : Inj) (cs : Array Value) (o : Nat) : Blk → Prop
  | .dead => False
  | .mx cells => o + cells.length ≤ cs.size ∧ ∀ (j : Nat) x, cells[j]? = some x → ∃ v, cs[o + j]? = some v ∧ oneC v = true ∧ RA w ι x v
  | .pr wd rows => o + rows.length * wd ≤ cs.size ∧ (∀ (i : Nat) row, rows[i]? = some row → row.length = wd) ∧
      ∀ (i : Nat) row (j : Nat) x, rows[i]? = some row → row[j]? = some x → x.one = true ∧ ∃ v, cs[o + (i * wd + j)]? = some v ∧ RP w ι.M x v

theorem BlkAt.later {w w' : World} {ι ι' : Inj} (hL : Later ι.M w w' ι'.M) (hι : ∀ b p, ι b = some p → ι' b = some p) {cs : Array Value} {o : Nat} {x : Blk} (h : BlkAt w ι cs o x) :
    BlkAt w' ι' cs o x := by
  cases x with
  | dead => exact h
  | mx cells =>
    obtain ⟨h1, h2⟩ := h
    refine ⟨h1, fun j x hx => ?_⟩
    obtain ⟨v, hv, ho, hr⟩ := h2 j x hx
    exact ⟨v, hv, ho, hr.later hL hι⟩
  | pr wd rows =>
    obtain ⟨h1, h2, h3⟩ := h
    refine ⟨h1, h2, fun i row j x hi hx => ?_⟩
    obtain ⟨ho, v, hv, hr⟩ := h3 i row j x hi hx
    exact ⟨ho, v, hv, hr.later hL⟩

theorem BlkAt.later_pr {w w' : World} {ι ι' : Inj} (hL : Later ι.M w w' ι'.M) {cs : Array Value} {o wd : Nat} {rows : List (List PV)} (h : BlkAt w ι cs o (.pr wd rows)) :
    BlkAt w' ι' cs o (.pr wd rows) := by
  obtain ⟨h1, h2, h3⟩ := h
  refine ⟨h1, h2, fun i row j x hi hx => ?_⟩
  obtain ⟨ho, v, hv, hr⟩ := h3 i row j x hi hx
  exact ⟨ho, v, hv, hr.later hL⟩

theorem BlkAt.rb {w : World} {ι : Inj} {c o : Nat} {cs : Array Value} {ty : TypeId} {fz : Nat × Nat} {x : Blk} (h : BlkAt w ι cs o x) (hc : w.heap[c]? = some (.cells cs ty fz)) (ht : Thaw cs.size fz) :
    RB w ι (some (c, o, cs.size)) x := by
  cases x with
  | dead => exact h.elim
  | mx cells => exact ⟨c, o, _, cs, ty, fz, rfl, hc, ht, rfl, h.1, h.2⟩
  | pr wd rows => exact .inr ⟨c, o, _, cs, ty, fz, rfl, hc, ht, rfl, h.1, h.2.1, h.2.2⟩

theorem RB.at {w : World} {ι : Inj} {c o s : Nat} {x : Blk} (h : RB w ι (some (c, o, s)) x) : ∃ cs ty fz, w.heap[c]? = some (.cells cs ty fz) ∧ Thaw cs.size fz ∧ cs.size = s ∧ BlkAt w ι cs o x := by
  cases x with
  | dead => cases h
  | mx cells =>
    obtain ⟨c', o', s', cs, ty, fz, he, h1, hf, h2, h3, h4⟩ := h
    cases he
    exact ⟨cs, ty, fz, h1, hf, h2, by rw [h2]; exact h3, h4⟩
  | pr wd rows =>
    rcases h with ⟨h0, _⟩ | ⟨c', o', s', cs, ty, fz, he, h1, hf, h2, h3, h4, h5⟩
    · cases h0
    · cases he
      exact ⟨cs, ty, fz, h1, hf, h2, by rw [h2]; exact h3, h4, h5⟩

/-- The world with a block laid, or turned. -/
def pushW (w : World) (o : Obj) : World := { w with heap := w.heap.push o }
def setW (w : World) (c : Nat) (o : Obj) : World := { w with heap := w.heap.setIfInBounds c o }

theorem pushW_old (w : World) (o : Obj) (c : Nat) (x : Obj) (h : w.heap[c]? = some x) : (pushW w o).heap[c]? = some x := by
  have hlt := (Array.getElem?_eq_some_iff.1 h).1
  simp only [pushW]
  rw [Array.getElem?_push_lt hlt]
  rw [Array.getElem?_eq_getElem hlt] at h
  exact h
theorem pushW_new (w : World) (o : Obj) : (pushW w o).heap[w.heap.size]? = some o := by
  show (w.heap.push o)[w.heap.size]? = some o
  simp
theorem setW_self (w : World) (c : Nat) (o : Obj) (h : c < w.heap.size) : (setW w c o).heap[c]? = some o := by simp [setW, h]
theorem setW_ne (w : World) {c d : Nat} (o : Obj) (h : d ≠ c) : (setW w c o).heap[d]? = w.heap[d]? := by
  simp only [setW]; exact Array.getElem?_setIfInBounds_ne (Ne.symm h)

section
variable {cx : Cx} {ι : Inj} {h : List Blk} {w : World}

/-- Turned: one block's place and content; whatever led to it leads there no more. -/
theorem Mem.turn (hm : Mem cx ι h w) {b : Nat} (hb : b < h.length) (hfx : cx.E.fx b = false) {w' : World} {p : Option (Nat × Nat × Nat)} {blk : Blk} {c : Nat}
    (hc : (∃ o s, ι b = some (c, o, s)) ∨ w.heap.size ≤ c) (hp : ∀ c' o s, p = some (c', o, s) → c' = c)
    (hsame : ∀ (d : Nat) (x : Obj), d ≠ c → w.heap[d]? = some x → w'.heap[d]? = some x) (hgrow : w.heap.size ≤ w'.heap.size)
    (hos : w'.os = w.os ∧ w'.output = w.output) (hrb : Later ι.M w w' (ι.upd b p).M → RB w' (ι.upd b p) p blk) :
    Mem cx (ι.upd b p) (setNth (killH b h) b blk) w' ∧ Later ι.M w w' (ι.upd b p).M := by
  have hcM : ι.I c ∨ w.heap.size ≤ c := hc.imp (fun ⟨o, s, h⟩ => ⟨b, o, s, h⟩) id
  have hM' : ∀ d, (ι.upd b p).I d → d = c ∨ ∃ b' o s, b' ≠ b ∧ ι b' = some (d, o, s) := by
    rintro d ⟨b', o, s, hb'⟩
    by_cases e : b' = b
    · subst e; rw [Inj.upd_self] at hb'; exact .inl (hp _ _ _ hb')
    · rw [Inj.upd_ne _ _ e] at hb'; exact .inr ⟨b', o, s, e, hb'⟩
  have hL : Later ι.M w w' (ι.upd b p).M := by
    refine ⟨fun d x hd hx => hsame d x (fun e => ?_) hx, fun d hd => ?_, hgrow⟩
    · subst e
      rcases hcM with h1 | h1
      · exact hd (.inl h1)
      · have := (Array.getElem?_eq_some_iff.1 hx).1; omega
    · rcases hd with hd | hd
      · rcases hM' d hd with rfl | ⟨b', o, s, _, h1⟩
        · exact hcM.imp .inl id
        · exact .inl (.inl ⟨b', o, s, h1⟩)
      · exact .inl (.inr hd)
  have hι : ∀ b', b' ≠ b → ∀ q, ι b' = some q → (ι.upd b p) b' = some q := fun b' e q hq => by rw [Inj.upd_ne _ _ e]; exact hq
  -- another block's place is another one
  have hother : ∀ b' d o s, b' ≠ b → ι b' = some (d, o, s) → d ≠ c := by
    intro b' d o s e h1 e2
    subst e2
    rcases hc with ⟨o2, s2, h2⟩ | h2
    · exact e (hm.hr.inj _ _ _ _ _ _ _ h1 h2)
    · have := hm.hr.lt ⟨b', o, s, h1⟩; omega
  refine ⟨⟨⟨fun b' => ?_, fun b1 b2 d o1 s1 o2 s2 h1 h2 => ?_, fun b1 d o1 s1 h1 => ?_⟩, hm.xl, hm.xe, fun d hd => ?_, fun d hd hlt => ?_, Nat.le_trans hm.gr hgrow, ?_, fun b' hb' => ?_, by rw [setNth_eq, List.length_set, killH_len]; exact hm.kl⟩, hL⟩
  · rw [nth_setNth _ _ _ _ _ (by rw [killH_len]; exact hb)]
    by_cases e : b' = b
    · rw [if_pos e]; subst e; rw [Inj.upd_self]; exact hrb hL
    · rw [if_neg e, Inj.upd_ne _ _ e, killH_nth]
      refine (hm.hr.blk b').kill hL hι fun d o s hd => ?_
      have hne := hother b' d o s e hd
      obtain ⟨cs, ty, fz, h1, _⟩ := hm.hr.size hd
      rw [h1, hsame _ _ hne h1]
  · by_cases e1 : b1 = b
    · subst e1
      rw [Inj.upd_self] at h1
      have := hp _ _ _ h1
      subst this
      by_cases e2 : b2 = b1
      · exact e2.symm
      · rw [Inj.upd_ne _ _ e2] at h2
        exact absurd rfl (hother _ _ _ _ e2 h2)
    · rw [Inj.upd_ne _ _ e1] at h1
      by_cases e2 : b2 = b
      · subst e2
        rw [Inj.upd_self] at h2
        have := hp _ _ _ h2
        subst this
        exact absurd rfl (hother _ _ _ _ e1 h1)
      · rw [Inj.upd_ne _ _ e2] at h2
        exact hm.hr.inj _ _ _ _ _ _ _ h1 h2
  · by_cases e1 : b1 = b
    · subst e1
      rw [Inj.upd_self] at h1
      have := hp _ _ _ h1
      subst this
      rcases hc with ⟨o2, s2, h2⟩ | h2
      · exact hm.hr.dis _ _ _ _ h2
      · intro hX; have := hm.xl _ hX; have := hm.gr; omega
    · rw [Inj.upd_ne _ _ e1] at h1
      exact hm.hr.dis _ _ _ _ h1
  · rcases hM' d hd with rfl | ⟨b', o, s, _, h1⟩
    · rcases hcM with h1 | h1
      · exact hm.ow _ h1
      · exact .inr (Nat.le_trans hm.gr h1)
    · exact hm.ow _ ⟨b', o, s, h1⟩
  · have hne : d ≠ c := by
      intro e
      subst e
      rcases hcM with h1 | h1
      · rcases hm.ow _ h1 with h2 | h2
        · exact hd h2
        · omega
      · have := hm.gr; omega
    have h1 := hm.fr d hd hlt
    have h2 : cx.w0.heap[d]? = some cx.w0.heap[d] := Array.getElem?_eq_getElem hlt
    rw [h2] at h1 ⊢
    exact hsame _ _ hne h1
  · exact ⟨hos.1.trans hm.os.1, hos.2.trans hm.os.2⟩
  · rw [Inj.upd_ne]
    · exact hm.fx b' hb'
    · intro e; subst e; rw [hfx] at hb'; cases hb'

/-- Written: one block's content, at its place. -/
theorem Mem.write (hm : Mem cx ι h w) {b c o s : Nat} (hb : ι b = some (c, o, s)) {w' : World} {blk : Blk}
    (hsame : ∀ (d : Nat) (x : Obj), d ≠ c → w.heap[d]? = some x → w'.heap[d]? = some x) (hgrow : w.heap.size ≤ w'.heap.size)
    (hos : w'.os = w.os ∧ w'.output = w.output) (hrb : Later ι.M w w' ι.M → RB w' ι (some (c, o, s)) blk) :
    Mem cx ι (setNth h b blk) w' ∧ Later ι.M w w' ι.M := by
  have hlen : b < h.length := by
    obtain ⟨cs, ty, fz, _, _, _, hd⟩ := hm.hr.size hb
    exact hm.hr.blen hd
  have hL : Later ι.M w w' ι.M := ⟨fun d x hd hx => hsame d x (fun e => hd (e ▸ .inl ⟨b, o, s, hb⟩)) hx, fun d hd => .inl hd, hgrow⟩
  refine ⟨⟨⟨fun b' => ?_, hm.hr.inj, hm.hr.dis⟩, hm.xl, hm.xe, hm.ow, fun d hd hlt => ?_, Nat.le_trans hm.gr hgrow, ⟨hos.1.trans hm.os.1, hos.2.trans hm.os.2⟩, hm.fx, by rw [setNth_eq, List.length_set]; exact hm.kl⟩, hL⟩
  · rw [nth_setNth _ _ _ _ _ hlen]
    by_cases e : b' = b
    · rw [if_pos e]; subst e; rw [hb]; exact hrb hL
    · rw [if_neg e]
      refine (hm.hr.blk b').later hL (fun _ _ h => h) fun d o' s' hd => ?_
      have hne : d ≠ c := fun e2 => by subst e2; exact e (hm.hr.inj _ _ _ _ _ _ _ hd hb)
      obtain ⟨cs, ty, fz, h1, _⟩ := hm.hr.size hd
      rw [h1, hsame _ _ hne h1]
  · have hne : d ≠ c := by
      intro e; subst e
      rcases hm.ow _ ⟨b, o, s, hb⟩ with h2 | h2
      · exact hd h2
      · omega
    have h1 := hm.fr d hd hlt
    have h2 : cx.w0.heap[d]? = some cx.w0.heap[d] := Array.getElem?_eq_getElem hlt
    rw [h2] at h1 ⊢
    exact hsame _ _ hne h1

/-- Laid: a new block. -/
theorem Mem.lay (hm : Mem cx ι h w) {w' : World} {c o s : Nat} {blk : Blk} (hc : w.heap.size ≤ c)
    (hold : ∀ (d : Nat) (x : Obj), w.heap[d]? = some x → w'.heap[d]? = some x)
    (hos : w'.os = w.os ∧ w'.output = w.output)
    (hrb : Later ι.M w w' (ι.upd h.length (some (c, o, s))).M → (∀ b p, ι b = some p → (ι.upd h.length (some (c, o, s))) b = some p) → RB w' (ι.upd h.length (some (c, o, s))) (some (c, o, s)) blk) :
    Mem cx (ι.upd h.length (some (c, o, s))) (h ++ [blk]) w' ∧ Later ι.M w w' (ι.upd h.length (some (c, o, s))).M ∧
      ∀ b p, ι b = some p → (ι.upd h.length (some (c, o, s))) b = some p := by
  have hnone : ι h.length = none := by
    cases hq : ι h.length with
    | none => rfl
    | some q =>
      obtain ⟨c', o', s'⟩ := q
      obtain ⟨cs, ty, fz, _, _, _, hd⟩ := hm.hr.size hq
      exact absurd (hm.hr.blen hd) (Nat.lt_irrefl _)
  have hι : ∀ b p, ι b = some p → (ι.upd h.length (some (c, o, s))) b = some p := fun b p hb => by
    rw [Inj.upd_ne]
    · exact hb
    · intro e; subst e; rw [hnone] at hb; cases hb
  have hgrow : w.heap.size ≤ w'.heap.size := Ext.size hold
  have hM' : ∀ d, (ι.upd h.length (some (c, o, s))).I d → d = c ∨ ι.I d := by
    rintro d ⟨b', o', s', hb'⟩
    by_cases e : b' = h.length
    · subst e; rw [Inj.upd_self] at hb'; cases hb'; exact .inl rfl
    · rw [Inj.upd_ne _ _ e] at hb'; exact .inr ⟨b', o', s', hb'⟩
  have hL : Later ι.M w w' (ι.upd h.length (some (c, o, s))).M :=
    ⟨fun d x _ hx => hold d x hx, fun d hd => hd.elim (fun hd => (hM' d hd).elim (fun e => .inr (e ▸ hc)) fun h => .inl (.inl h)) fun h => .inl (.inr h), hgrow⟩
  refine ⟨⟨⟨fun b' => ?_, fun b1 b2 d o1 s1 o2 s2 h1 h2 => ?_, fun b1 d o1 s1 h1 => ?_⟩, hm.xl, hm.xe, fun d hd => ?_, fun d hd hlt => ?_, Nat.le_trans hm.gr hgrow, ⟨hos.1.trans hm.os.1, hos.2.trans hm.os.2⟩, fun b' hb' => ?_, by rw [List.length_append]; exact Nat.le_trans hm.kl (Nat.le_add_right _ _)⟩, hL, hι⟩
  · rw [nth_append_new]
    by_cases e : b' = h.length
    · rw [if_pos e]; subst e; rw [Inj.upd_self]; exact hrb hL hι
    · rw [if_neg e, Inj.upd_ne _ _ e]
      refine (hm.hr.blk b').later hL hι fun d o' s' hd => ?_
      obtain ⟨cs, ty, fz, h1, _⟩ := hm.hr.size hd
      rw [h1, hold _ _ h1]
  · have hlt : ∀ b' d o' s', ι b' = some (d, o', s') → d ≠ c := fun b' d o' s' h3 e => by
      have := hm.hr.lt ⟨b', o', s', h3⟩; omega
    by_cases e1 : b1 = h.length
    · subst e1
      rw [Inj.upd_self] at h1; cases h1
      by_cases e2 : b2 = h.length
      · exact e2.symm
      · rw [Inj.upd_ne _ _ e2] at h2; exact absurd rfl (hlt _ _ _ _ h2)
    · rw [Inj.upd_ne _ _ e1] at h1
      by_cases e2 : b2 = h.length
      · subst e2; rw [Inj.upd_self] at h2; cases h2; exact absurd rfl (hlt _ _ _ _ h1)
      · rw [Inj.upd_ne _ _ e2] at h2; exact hm.hr.inj _ _ _ _ _ _ _ h1 h2
  · by_cases e1 : b1 = h.length
    · subst e1
      rw [Inj.upd_self] at h1; cases h1
      intro hX; have := hm.xl _ hX; have := hm.gr; omega
    · rw [Inj.upd_ne _ _ e1] at h1
      exact hm.hr.dis _ _ _ _ h1
  · rcases hM' d hd with rfl | h1
    · exact .inr (Nat.le_trans hm.gr hc)
    · exact hm.ow _ h1
  · have h1 := hm.fr d hd hlt
    have h2 : cx.w0.heap[d]? = some cx.w0.heap[d] := Array.getElem?_eq_getElem hlt
    rw [h2] at h1 ⊢
    exact hold _ _ h1
  · rw [Inj.upd_ne]
    · exact hm.fx b' hb'
    · intro e; subst e; have := cx.fk _ hb'; have := hm.kl; omega

/-- The same memory, whatever was drawn. -/
theorem Mem.same (hm : Mem cx ι h w) {w' : World} (hh : w'.heap = w.heap) (hos : w'.os = w.os ∧ w'.output = w.output) : Mem cx ι h w' := by
  have hL : Later ι.M w w' ι.M := ⟨fun c o _ hc => by rw [hh]; exact hc, fun c hc => .inl hc, by rw [hh]; exact Nat.le_refl _⟩
  exact ⟨⟨fun b => (hm.hr.blk b).later hL (fun _ _ h => h) fun c o s _ => by rw [hh], hm.hr.inj, hm.hr.dis⟩, hm.xl, hm.xe, hm.ow, fun c hc hlt => by rw [hh]; exact hm.fr c hc hlt,
    by rw [hh]; exact hm.gr, ⟨hos.1.trans hm.os.1, hos.2.trans hm.os.2⟩, hm.fx, hm.kl⟩

end

/-- Slots over a later world, and with a block's readers gone. -/
theorem tm_later {w w' : World} {ι ι' : Inj} {t : List (Nat × AV)} {a : Act} (hL : Later ι.M w w' ι'.M) (hι : ∀ b p, ι b = some p → ι' b = some p)
    (h : ∀ s, RA w ι (lk t s) (a.tmps.getD s undef)) : ∀ s, RA w' ι' (lk t s) (a.tmps.getD s undef) := fun s => (h s).later hL hι

theorem tm_kill {w w' : World} {ι ι' : Inj} {t : List (Nat × AV)} {a : Act} {b : Nat} (hL : Later ι.M w w' ι'.M) (hι : ∀ b', b' ≠ b → ∀ p, ι b' = some p → ι' b' = some p)
    (h : ∀ s, RA w ι (lk t s) (a.tmps.getD s undef)) : ∀ s, RA w' ι' (lk (killT b t) s) (a.tmps.getD s undef) := fun s => by
  rw [lk_kill]; exact (h s).kill hL hι

end Hk
