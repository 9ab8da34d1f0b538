/- Hk, part 2: what an abstract value, block and state mean in a world; what keeps that meaning. -/
import Derived.Test.YtmgkffdnnjpmpaaHkDefs
namespace Hk
open Go
set_option linter.unusedVariables false

theorem beqF {a b : Nat} (h : a ≠ b) : Nat.beq a b = false := by
  cases hb : Nat.beq a b
  · rfl
  · exact absurd (Nat.eq_of_beq_eq_true hb) h

/-- Where the call's own blocks lie; and the blocks of callers, which it neither turns nor reads. -/
structure Inj where
  m : Nat → Option (Nat × Nat × Nat)
  X : Nat → Prop
instance : CoeFun Inj (fun _ => Nat → Option (Nat × Nat × Nat)) := ⟨Inj.m⟩
/-- The concrete blocks that the call's own blocks lie in. -/
def Inj.I (ι : Inj) (c : Nat) : Prop := ∃ b o s, ι b = some (c, o, s)
/-- Blocks that no pure value lies in. -/
def Inj.M (ι : Inj) (c : Nat) : Prop := ι.I c ∨ ι.X c

def PV.one : PV → Bool
  | .agg _ => false
  | _ => true

inductive RP (w : World) (M : Nat → Prop) : PV → Value → Prop
  | int (k : IntKind) (n : Int) : RP w M (.int k n) (.int k n)
  | b (x : Bool) : RP w M (.b x) (.bool x)
  | str (l : List UInt8) : RP w M (.str l) (.string ⟨⟨l⟩⟩)
  | lit (v : Value) (h : oneC v = true) : RP w M (.lit v) v
  | nil {wd : Nat} {cap : Option Nat} {a : Option Addr} {c : Nat} (h : ∀ k, cap = some k → c = k) : RP w M (.isl wd [] cap) (.slice a 0 c)
  | isl {wd : Nat} {rows : List (List PV)} {cap : Option Nat} {a : Addr} {c : Nat} {cv : Nat → Nat → Value} (hs : a.spot = none) (hM : ¬ M a.block)
      (hb : a.block < w.heap.size) (hc : rows.length ≤ c) (hcap : ∀ k, cap = some k → c = k)
      (hrow : ∀ (i : Nat) (row : List PV), rows[i]? = some row → row.length = wd)
      (hone : ∀ (i : Nat) (row : List PV) (j : Nat) (x : PV), rows[i]? = some row → row[j]? = some x → PV.one x = true)
      (hcell : ∀ (i : Nat) (row : List PV) (j : Nat) (x : PV), rows[i]? = some row → row[j]? = some x → w.cell? ⟨a.block, a.off + (i * wd + j), none⟩ = some (cv i j))
      (hrp : ∀ (i : Nat) (row : List PV) (j : Nat) (x : PV), rows[i]? = some row → row[j]? = some x → RP w M x (cv i j)) : RP w M (.isl wd rows cap) (.slice (some a) rows.length c)
  | irow {row : List PV} {j : Nat} {a : Addr} {cv : Nat → Value} (hs : a.spot = none) (hM : ¬ M a.block) (hb : a.block < w.heap.size)
      (hone : ∀ (i : Nat) x, row[i]? = some x → PV.one x = true)
      (hcell : ∀ (i : Nat) x, row[i]? = some x → w.cell? ⟨a.block, a.off + i, none⟩ = some (cv i))
      (hrp : ∀ (i : Nat) x, row[i]? = some x → RP w M x (cv i)) : RP w M (.irow row j) (.pointer (some ⟨a.block, a.off + j, none⟩))
  | agg {cells : List PV} {cs : Array Value} (hl : cs.size = cells.length) (hone : ∀ (i : Nat) x, cells[i]? = some x → PV.one x = true)
      (h : ∀ (i : Nat) x, cells[i]? = some x → RP w M x (cs.getD i undef)) : RP w M (.agg cells) (.agg cs)
  | fn {f : Nat} {first cap : List PV} {fa ca : Array Value} (h1 : fa.size = first.length) (h2 : ca.size = cap.length)
      (h3 : ∀ (i : Nat) x, first[i]? = some x → RP w M x (fa.getD i undef)) (h4 : ∀ (i : Nat) x, cap[i]? = some x → RP w M x (ca.getD i undef)) :
      RP w M (.fn f first cap) (.func (.func f) fa ca)
  | ifc {t : TypeId} {x : PV} {v : Value} (h : RP w M x v) : RP w M (.ifc t x) (.iface t v)

theorem RP.oneCell {w : World} {M : Nat → Prop} {x : PV} {v : Value} (h : RP w M x v) (h1 : x.one = true) : oneC v = true := by
  cases h <;> first | rfl | assumption | (simp [PV.one] at h1)

/-- From one world to a later one: whatever lies outside of the call's own blocks stays. -/
structure Later (M : Nat → Prop) (w w' : World) (M' : Nat → Prop) : Prop where
  keep : ∀ (c : Nat) (o : Obj), ¬ M c → w.heap[c]? = some o → w'.heap[c]? = some o
  new : ∀ c, M' c → M c ∨ w.heap.size ≤ c
  grow : w.heap.size ≤ w'.heap.size

theorem Later.cell {M M' : Nat → Prop} {w w' : World} (h : Later M w w' M') {a : Addr} {v : Value} (hM : ¬ M a.block) (hc : w.cell? a = some v) :
    w'.cell? a = some v := by
  unfold World.cell? at *
  cases ho : w.heap[a.block]? with
  | none => simp [ho] at hc
  | some o => rw [h.keep _ _ hM ho]; rw [ho] at hc; exact hc

theorem Later.refl (M : Nat → Prop) (w : World) : Later M w w M := ⟨fun _ _ _ h => h, fun _ h => .inl h, Nat.le_refl _⟩

theorem RP.later {w w' : World} {M M' : Nat → Prop} (hL : Later M w w' M') {x : PV} {v : Value} (h : RP w M x v) : RP w' M' x v := by
  induction h with
  | int k n => exact .int k n
  | b x => exact .b x
  | str l => exact .str l
  | lit v h => exact .lit v h
  | nil h => exact .nil h
  | isl hs hM hb hc hcap hrow hone hcell hrp ih =>
    refine .isl hs (fun h' => ?_) (Nat.lt_of_lt_of_le hb hL.grow) hc hcap hrow hone (fun i row j x h1 h2 => hL.cell hM (hcell i row j x h1 h2)) ih
    rcases hL.new _ h' with h' | h'
    · exact hM h'
    · omega
  | irow hs hM hb hone hcell hrp ih =>
    refine .irow hs (fun h' => ?_) (Nat.lt_of_lt_of_le hb hL.grow) hone (fun i x h1 => hL.cell hM (hcell i x h1)) ih
    rcases hL.new _ h' with h' | h'
    · exact hM h'
    · omega
  | agg hl hone h ih => exact .agg hl hone ih
  | fn h1 h2 h3 h4 ih3 ih4 => exact .fn h1 h2 ih3 ih4
  | ifc h ih => exact .ifc ih

inductive RA (w : World) (ι : Inj) : AV → Value → Prop
  | p {x : PV} {v : Value} (h : RP w ι.M x v) : RA w ι (.p x) v
  | und (v : Value) : RA w ι .undef v
  | ptr {b wd i j c o s : Nat} (h : ι b = some (c, o, s)) : RA w ι (.ptr b wd i j) (.pointer (some ⟨c, o + (i * wd + j), none⟩))
  | sl {b wd i len c o s cc : Nat} {cap : Option Nat} (h : ι b = some (c, o, s)) (hl : len ≤ cc) (hcap : ∀ k, cap = some k → cc = k)
      (hs : o + (i + cc) * wd ≤ s) : RA w ι (.sl b wd i len cap) (.slice (some ⟨c, o + i * wd, none⟩) len cc)
  | slz {b wd i : Nat} {cap : Option Nat} {oa : Option Addr} (hcap : ∀ k, cap = some k → k = 0) : RA w ι (.sl b wd i 0 cap) (.slice oa 0 0)
  | csl {b wd i j esz len c o s cc : Nat} (h : ι b = some (c, o, s)) (hl : len ≤ cc) :
      RA w ι (.csl b wd i j esz len) (.slice (some ⟨c, o + (i * wd + j), none⟩) len cc)
  | cslz {b wd i j esz cc : Nat} {oa : Option Addr} : RA w ι (.csl b wd i j esz 0) (.slice oa 0 cc)
  | agg {cells : List AV} {cs : Array Value} (hl : cs.size = cells.length) (hone : ∀ (i : Nat) x, cells[i]? = some x → oneC (cs.getD i undef) = true)
      (h : ∀ (i : Nat) x, cells[i]? = some x → RA w ι x (cs.getD i undef)) : RA w ι (.agg cells) (.agg cs)
  | tup {vs : List AV} {cs : Array Value} (hl : cs.size = vs.length) (h : ∀ (i : Nat) x, vs[i]? = some x → RA w ι x (cs.getD i undef)) : RA w ι (.tup vs) (.tuple cs)
  | fn {f : Nat} {first cap : List AV} {fa ca : Array Value} (h1 : fa.size = first.length) (h2 : ca.size = cap.length)
      (h3 : ∀ (i : Nat) x, first[i]? = some x → RA w ι x (fa.getD i undef)) (h4 : ∀ (i : Nat) x, cap[i]? = some x → RA w ι x (ca.getD i undef)) :
      RA w ι (.fn f first cap) (.func (.func f) fa ca)
  | ifc {t : TypeId} {x : AV} {v : Value} (h : RA w ι x v) : RA w ι (.ifc t x) (.iface t v)

theorem RA.later {w w' : World} {ι ι' : Inj} (hL : Later ι.M w w' ι'.M) (hι : ∀ b p, ι b = some p → ι' b = some p) {x : AV} {v : Value} (h : RA w ι x v) : RA w' ι' x v := by
  induction h with
  | p h => exact .p (h.later hL)
  | und v => exact .und v
  | ptr h => exact .ptr (hι _ _ h)
  | sl h hl hcap hs => exact .sl (hι _ _ h) hl hcap hs
  | slz hcap => exact .slz hcap
  | csl h hl => exact .csl (hι _ _ h) hl
  | cslz => exact .cslz
  | agg hl hone h ih => exact .agg hl hone ih
  | tup hl h ih => exact .tup hl ih
  | fn h1 h2 h3 h4 ih3 ih4 => exact .fn h1 h2 ih3 ih4
  | ifc h ih => exact .ifc ih

/-- Where only a block's place is turned that nothing leads to any more, or that had none. -/
theorem killL_get (b : Nat) (l : List AV) (i : Nat) : (AV.killL b l)[i]? = (l[i]?).map (AV.kill b) := by
  induction l generalizing i with
  | nil => simp [AV.killL]
  | cons x r ih => cases i <;> simp [AV.killL, ih]

theorem killL_len (b : Nat) (l : List AV) : (AV.killL b l).length = l.length := by
  induction l with
  | nil => rfl
  | cons x r ih => simp [AV.killL, ih]

theorem RA.kill {w w' : World} {ι ι' : Inj} {b : Nat} (hL : Later ι.M w w' ι'.M) (hι : ∀ b', b' ≠ b → ∀ p, ι b' = some p → ι' b' = some p) {x : AV} {v : Value} (h : RA w ι x v) :
    RA w' ι' (x.kill b) v := by
  induction h with
  | p h => exact .p (h.later hL)
  | und v => exact .und v
  | ptr h =>
    rename_i b' wd i j c o s
    unfold AV.kill
    by_cases e : b' = b
    · subst e; simp; exact .und _
    · rw [beqF e]; exact .ptr (hι _ e _ h)
  | sl h hl hcap hs =>
    rename_i b' wd i len c o s cc cap
    unfold AV.kill
    by_cases e : b' = b
    · subst e; simp; exact .und _
    · rw [beqF e]; exact .sl (hι _ e _ h) hl hcap hs
  | slz hcap =>
    rename_i b' wd i cap oa
    unfold AV.kill
    by_cases e : b' = b
    · subst e; simp; exact .und _
    · rw [beqF e]; exact .slz hcap
  | csl h hl =>
    rename_i b' wd i j esz len c o s cc
    unfold AV.kill
    by_cases e : b' = b
    · subst e; simp; exact .und _
    · rw [beqF e]; exact .csl (hι _ e _ h) hl
  | cslz =>
    rename_i b' wd i j esz cc oa
    unfold AV.kill
    by_cases e : b' = b
    · subst e; simp; exact .und _
    · rw [beqF e]; exact .cslz
  | agg hl hone h ih =>
    rw [AV.kill]
    refine .agg (by rw [killL_len]; exact hl) (fun i x hx => ?_) (fun i x hx => ?_)
    all_goals rw [killL_get] at hx; obtain ⟨y, hy, rfl⟩ := Option.map_eq_some_iff.1 hx
    · exact hone i y hy
    · exact ih i y hy
  | tup hl h ih =>
    rw [AV.kill]
    refine .tup (by rw [killL_len]; exact hl) (fun i x hx => ?_)
    rw [killL_get] at hx; obtain ⟨y, hy, rfl⟩ := Option.map_eq_some_iff.1 hx
    exact ih i y hy
  | fn h1 h2 h3 h4 ih3 ih4 =>
    rw [AV.kill]
    refine .fn (by rw [killL_len]; exact h1) (by rw [killL_len]; exact h2) (fun i x hx => ?_) (fun i x hx => ?_)
    all_goals rw [killL_get] at hx; obtain ⟨y, hy, rfl⟩ := Option.map_eq_some_iff.1 hx
    · exact ih3 i y hy
    · exact ih4 i y hy
  | ifc h ih => rw [AV.kill]; exact .ifc ih

/-! ### Blocks -/

/-- No cell of so many is frozen. -/
def Thaw (n : Nat) (fz : Nat × Nat) : Prop := ∀ o, o < n → ¬ (fz.1 ≤ o ∧ o < fz.2)

/-- What a block of the call's own means at its place. -/
def RB (w : World) (ι : Inj) (p : Option (Nat × Nat × Nat)) : Blk → Prop
  | .dead => p = none
  | .mx cells => ∃ c o s cs ty fz, p = some (c, o, s) ∧ w.heap[c]? = some (.cells cs ty fz) ∧ Thaw cs.size fz ∧ cs.size = s ∧ o + cells.length ≤ s ∧
      ∀ (j : Nat) x, cells[j]? = some x → ∃ v, cs[o + j]? = some v ∧ oneC v = true ∧ RA w ι x v
  | .pr wd rows => (p = none ∧ rows = []) ∨ ∃ c o s cs ty fz, p = some (c, o, s) ∧ w.heap[c]? = some (.cells cs ty fz) ∧ Thaw cs.size fz ∧ cs.size = s ∧ o + rows.length * wd ≤ s ∧
      (∀ (i : Nat) (row : List PV), rows[i]? = some row → row.length = wd) ∧
      ∀ (i : Nat) (row : List PV) (j : Nat) (x : PV), rows[i]? = some row → row[j]? = some x → x.one = true ∧ ∃ v, cs[o + (i * wd + j)]? = some v ∧ RP w ι.M x v

structure HRel (ι : Inj) (h : List Blk) (w : World) : Prop where
  blk : ∀ b, RB w ι (ι b) (nth .dead h b)
  inj : ∀ b b' c o s o' s', ι b = some (c, o, s) → ι b' = some (c, o', s') → b = b'
  dis : ∀ b c o s, ι b = some (c, o, s) → ¬ ι.X c

theorem HRel.size {ι : Inj} {h : List Blk} {w : World} (hr : HRel ι h w) {b c o s : Nat} (hb : ι b = some (c, o, s)) :
    ∃ cs ty fz, w.heap[c]? = some (.cells cs ty fz) ∧ Thaw cs.size fz ∧ cs.size = s ∧ nth .dead h b ≠ .dead := by
  have := hr.blk b
  cases hk : nth .dead h b with
  | dead => rw [hk, RB, hb] at this; cases this
  | mx cells =>
    rw [hk, RB, hb] at this
    obtain ⟨c', o', s', cs, ty, fz, he, h1, hf, h2, _⟩ := this
    cases he
    exact ⟨cs, ty, fz, h1, hf, h2, by simp⟩
  | pr wd rows =>
    rw [hk, RB, hb] at this
    rcases this with ⟨h0, _⟩ | ⟨c', o', s', cs, ty, fz, he, h1, hf, h2, _⟩
    · cases h0
    · cases he
      exact ⟨cs, ty, fz, h1, hf, h2, by simp⟩

theorem HRel.lt {ι : Inj} {h : List Blk} {w : World} (hr : HRel ι h w) {c : Nat} (hc : ι.I c) : c < w.heap.size := by
  obtain ⟨b, o, s, hb⟩ := hc
  obtain ⟨cs, ty, fz, h1, _⟩ := hr.size hb
  exact (Array.getElem?_eq_some_iff.1 h1).1

theorem nth_lt {α : Type} (d : α) (l : List α) (n : Nat) (h : l.length ≤ n) : nth d l n = d := by
  induction l generalizing n with
  | nil => rfl
  | cons x r ih => cases n with
    | zero => simp at h
    | succ n => simp [nth]; exact ih n (by simpa using h)

theorem nth_eq {α : Type} (d : α) (l : List α) (n : Nat) : nth d l n = (l[n]?).getD d := by
  induction l generalizing n with
  | nil => simp [nth]
  | cons x r ih => cases n with
    | zero => simp [nth]
    | succ n => simp [nth, ih]

theorem setNth_eq {α : Type} (l : List α) (n : Nat) (v : α) : setNth l n v = l.set n v := by
  induction l generalizing n with
  | nil => rfl
  | cons x r ih => cases n with
    | zero => rfl
    | succ n => simp [setNth, ih]

theorem dropN_eq {α : Type} (n : Nat) (l : List α) : dropN n l = l.drop n := by cases n <;> rfl

theorem nth_append_new {α : Type} (d : α) (l : List α) (x : α) (n : Nat) : nth d (l ++ [x]) n = if n = l.length then x else nth d l n := by
  rw [nth_eq, nth_eq, List.getElem?_append]
  by_cases h : n < l.length
  · simp [h, Nat.ne_of_lt h]
  · by_cases e : n = l.length
    · subst e; simp
    · have h1 : l[n]? = none := List.getElem?_eq_none (by omega)
      have h2 : ([x] : List α)[n - l.length]? = none := List.getElem?_eq_none (by simp; omega)
      simp [h, e, h2]

theorem nth_setNth {α : Type} (d : α) (l : List α) (n m : Nat) (v : α) (h : n < l.length) : nth d (setNth l n v) m = if m = n then v else nth d l m := by
  rw [setNth_eq, nth_eq, nth_eq, List.getElem?_set]
  by_cases e : n = m
  · subst e; simp [h]
  · simp [e, Ne.symm e]

theorem HRel.blen {ι : Inj} {h : List Blk} {w : World} (hr : HRel ι h w) {b : Nat} (hb : nth .dead h b ≠ .dead) : b < h.length := by
  rcases Nat.lt_or_ge b h.length with h' | h'
  · exact h'
  · exact absurd (nth_lt _ _ _ h') hb

/-- A block's meaning is kept where its own memory stays, or nothing of it is turned. -/
theorem RB.later {w w' : World} {ι ι' : Inj} {p : Option (Nat × Nat × Nat)} (hL : Later ι.M w w' ι'.M) (hι : ∀ b p, ι b = some p → ι' b = some p)
    (hk : ∀ c o s, p = some (c, o, s) → w'.heap[c]? = w.heap[c]?) {x : Blk} (h : RB w ι p x) : RB w' ι' p x := by
  cases x with
  | dead => exact h
  | mx cells =>
    obtain ⟨c, o, s, cs, ty, fz, hp, h1, hf, h2, h3, h4⟩ := h
    refine ⟨c, o, s, cs, ty, fz, hp, by rw [hk _ _ _ hp, h1], hf, h2, h3, fun j x hx => ?_⟩
    obtain ⟨v, hv, ho, hr⟩ := h4 j x hx
    exact ⟨v, hv, ho, hr.later hL hι⟩
  | pr wd rows =>
    rcases h with h | ⟨c, o, s, cs, ty, fz, hp, h1, hf, h2, h3, h4, h5⟩
    · exact .inl h
    · refine .inr ⟨c, o, s, cs, ty, fz, hp, by rw [hk _ _ _ hp, h1], hf, h2, h3, h4, fun i row j x hi hx => ?_⟩
      obtain ⟨ho, v, hv, hr⟩ := h5 i row j x hi hx
      exact ⟨ho, v, hv, hr.later hL⟩

theorem RB.kill {w w' : World} {ι ι' : Inj} {b : Nat} {p : Option (Nat × Nat × Nat)} (hL : Later ι.M w w' ι'.M) (hι : ∀ b', b' ≠ b → ∀ p, ι b' = some p → ι' b' = some p)
    (hk : ∀ c o s, p = some (c, o, s) → w'.heap[c]? = w.heap[c]?) {x : Blk} (h : RB w ι p x) :
    RB w' ι' p (x.kill b) := by
  cases x with
  | dead => exact h
  | mx cells =>
    obtain ⟨c, o, s, cs, ty, fz, hp, h1, hf, h2, h3, h4⟩ := h
    refine ⟨c, o, s, cs, ty, fz, hp, by rw [hk _ _ _ hp, h1], hf, h2, by rw [killL_len]; exact h3, fun j x hx => ?_⟩
    rw [killL_get] at hx; obtain ⟨y, hy, rfl⟩ := Option.map_eq_some_iff.1 hx
    obtain ⟨v, hv, ho, hr⟩ := h4 j y hy
    exact ⟨v, hv, ho, hr.kill hL hι⟩
  | pr wd rows =>
    rcases h with h | ⟨c, o, s, cs, ty, fz, hp, h1, hf, h2, h3, h4, h5⟩
    · exact .inl h
    · refine .inr ⟨c, o, s, cs, ty, fz, hp, by rw [hk _ _ _ hp, h1], hf, h2, h3, h4, fun i row j x hi hx => ?_⟩
      obtain ⟨ho, v, hv, hr⟩ := h5 i row j x hi hx
      exact ⟨ho, v, hv, hr.later hL⟩

theorem killH_nth (b : Nat) (h : List Blk) (n : Nat) : nth .dead (killH b h) n = (nth .dead h n).kill b := by
  induction h generalizing n with
  | nil => rfl
  | cons x r ih => cases n with
    | zero => rfl
    | succ n => simp [killH, nth, ih]

theorem killH_len (b : Nat) (h : List Blk) : (killH b h).length = h.length := by
  induction h with
  | nil => rfl
  | cons x r ih => simp [killH, ih]

theorem lk_kill (b : Nat) (t : List (Nat × AV)) (s : Nat) : lk (killT b t) s = (lk t s).kill b := by
  induction t with
  | nil => rfl
  | cons x r ih =>
    obtain ⟨k, v⟩ := x
    simp only [killT, lk, ih]
    cases Nat.beq k s <;> rfl

/-! ### The state of a call -/

structure Cx where
  P : Program
  w0 : World
  own : Nat → Prop
  n : Nat
  E : En
  ι0 : Inj
  fk : ∀ b, E.fx b = true → b < E.k

structure Mem (cx : Cx) (ι : Inj) (h : List Blk) (w : World) : Prop where
  hr : HRel ι h w
  xl : ∀ c, ι.X c → c < cx.w0.heap.size
  xe : ι.X = cx.ι0.X
  ow : ∀ c, ι.I c → cx.own c ∨ cx.w0.heap.size ≤ c
  fr : ∀ (c : Nat), ¬ cx.own c → c < cx.w0.heap.size → w.heap[c]? = cx.w0.heap[c]?
  gr : cx.w0.heap.size ≤ w.heap.size
  os : w.os = cx.w0.os ∧ w.output = cx.w0.output
  fx : ∀ b, cx.E.fx b = true → ι b = cx.ι0 b
  kl : cx.E.k ≤ h.length

structure Rel (cx : Cx) (ι : Inj) (st : St) (a : Act) (w : World) : Prop where
  mem : Mem cx ι st.heap w
  tm : ∀ s, RA w ι (lk st.tmps s) (a.tmps.getD s undef)
  sz : a.tmps.size = cx.n
  df : a.defers = []

/-- Some way to read this state as one of the abstract states of K. -/
def Kc (cx : Cx) (K : St → Prop) (a : Act) (w : World) : Prop := ∃ ι st, Rel cx ι st a w ∧ K st

/-- Old blocks are as they were. -/
def Ext (w w' : World) : Prop := ∀ (c : Nat) (o : Obj), w.heap[c]? = some o → w'.heap[c]? = some o

theorem Ext.refl (w : World) : Ext w w := fun _ _ h => h
theorem Ext.trans {w w' w'' : World} (h : Ext w w') (h' : Ext w' w'') : Ext w w'' := fun c o hc => h' c o (h c o hc)
theorem Ext.cell {w w' : World} (h : Ext w w') {a : Addr} {v : Value} (hc : w.cell? a = some v) : w'.cell? a = some v := by
  unfold World.cell? at *
  cases ho : w.heap[a.block]? with
  | none => simp [ho] at hc
  | some o => rw [h _ _ ho]; rw [ho] at hc; exact hc
theorem Ext.size {w w' : World} (h : Ext w w') : w.heap.size ≤ w'.heap.size := by
  rcases Nat.lt_or_ge w'.heap.size w.heap.size with hlt | hge
  · have h1 : w.heap[w'.heap.size]? = some w.heap[w'.heap.size] := Array.getElem?_eq_getElem hlt
    have h2 := h _ _ h1
    simp at h2
  · exact hge

theorem Act.put_size (a : Act) (d : Option Tmp) (v : Value) : (a.put d v).tmps.size = a.tmps.size := by cases d <;> simp [Act.put]
theorem Act.put_df (a : Act) (d : Option Tmp) (v : Value) : (a.put d v).defers = a.defers := by cases d <;> rfl

/-- A slot is laid. -/
theorem tm_put {w : World} {ι : Inj} {st : St} {a : Act} {n : Nat} (h : ∀ s, RA w ι (lk st.tmps s) (a.tmps.getD s undef)) (hsz : a.tmps.size = n) {d : Option Nat}
    (hd : ∀ t, d = some t → t < n) {x : AV} {v : Value} (hx : RA w ι x v) : ∀ s, RA w ι (lk (st.put d x).tmps s) ((a.put d v).tmps.getD s undef) := by
  intro s
  cases d with
  | none => exact h s
  | some d =>
    simp only [St.put, lk, Act.put]
    have hlt := hd d rfl
    by_cases e : d = s
    · subst e
      rw [show Nat.beq d d = true from by simp]
      simp [hsz, hlt, hx]
    · rw [beqF e]
      have := h s
      simpa [Array.getElem?_setIfInBounds_ne e] using this

theorem put_heap (st : St) (d : Option Nat) (x : AV) : (st.put d x).heap = st.heap := by cases d <;> rfl

theorem Rel.put {cx : Cx} {ι : Inj} {st : St} {a : Act} {w : World} (h : Rel cx ι st a w) {d : Option Nat} (hd : ∀ t, d = some t → t < cx.n) {x : AV} {v : Value}
    (hx : RA w ι x v) : Rel cx ι (st.put d x) (a.put d v) w :=
  ⟨by rw [put_heap]; exact h.mem, tm_put h.tm h.sz hd hx, by rw [Act.put_size]; exact h.sz, by rw [Act.put_df]; exact h.df⟩

end Hk
