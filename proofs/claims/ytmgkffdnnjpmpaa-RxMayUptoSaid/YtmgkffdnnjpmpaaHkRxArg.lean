/- Arguments that are trees. -/
import Derived.Test.YtmgkffdnnjpmpaaHkShapes
import Derived.Test.YtmgkffdnnjpmpaaHkRxA
namespace Hk
open Go Go.ChangeShapes Go.WideShapes Go.RowKit
set_option linter.unusedVariables false
set_option linter.unusedSimpArgs false

/-- These cells' values serve as a tree's. -/
def CellsOf (w : World) (M : Nat → Prop) (cv : Nat → Value) (T : Tr) : Prop := T.Fit ∧ ∀ (j : Nat) x, T.cells[j]? = some x → RP w M x (cv j)

def ReQ (q : List PV) : Prop := q.length = 8 ∧ ∀ (w : World) (M : Nat → Prop) (cv : Nat → Value), (∀ (j : Nat) x, q[j]? = some x → RP w M x (cv j)) → ∃ T : Tr, CellsOf w M cv T

theorem u64_of {n : Int} (h : (Lit.int .u64 n).wf = true) : ∃ b : BitVec 64, PV.int .u64 n = u64 b := by
  simp [Lit.wf, IntKind.min, IntKind.max, IntKind.signed, IntKind.bits] at h
  refine ⟨BitVec.ofNat 64 n.toNat, congrArg (PV.int .u64) ?_⟩
  rw [BitVec.toNat_ofNat]
  omega

theorem cells_one (T : Tr) {j : Nat} {x : PV} (h : T.cells[j]? = some x) : PV.one x = true := by
  obtain ⟨k, s, sub, lo, hi⟩ := T
  match j, h with
  | 0, h => cases h; rfl
  | 1, h => cases h; rfl
  | 2, h => cases h; rfl
  | 3, h => cases h; rfl
  | 4, h => cases h; rfl
  | 5, h => cases h; rfl
  | 6, h => cases h; rfl
  | 7, h => cases h; rfl

theorem pick_trees {rows : List (List PV)} {w : World} {M : Nat → Prop} {cv : Nat → Nat → Value}
    (h : ∀ (i : Nat) r, rows[i]? = some r → ∃ T : Tr, CellsOf w M (cv i) T) : ∃ l : List Tr, l.length = rows.length ∧ ∀ (i : Nat) T, l[i]? = some T → CellsOf w M (cv i) T := by
  induction rows generalizing cv with
  | nil => exact ⟨[], rfl, fun i T h => by simp at h⟩
  | cons r rs ih =>
    obtain ⟨T, hT⟩ := h 0 r rfl
    obtain ⟨l, hl, hl'⟩ := ih (cv := fun i => cv (i + 1)) fun i r' hr => h (i + 1) r' (by simpa using hr)
    refine ⟨T :: l, by simp [hl], fun i T' hi => ?_⟩
    cases i with
    | zero => cases hi; exact hT
    | succ i => exact hl' i T' (by simpa using hi)

/-- A slice of trees. -/
theorem re_slice {rows : List (List PV)} {wd : Nat} {cap : Option Nat} (hq : ∀ (i : Nat) r, rows[i]? = some r → ReQ r) (hlen : rows.length ≤ maxLen) {w : World} {M : Nat → Prop} {v : Value} (h : RP w M (.isl wd rows cap) v) :
    ∃ l : List Tr, l.length = rows.length ∧ (∀ t ∈ l, t.Fit) ∧ RP w M (.isl 8 (Tr.rowsL l) none) v := by
  cases h with
  | nil hc => exact ⟨[], rfl, fun t ht => (by cases ht), .nil (fun k hk => by cases hk)⟩
  | isl hs hM hb hc hcap hrow hone hcell hrp =>
    rename_i a c cv
    obtain ⟨l, hl, hl'⟩ := pick_trees (rows := rows) (w := w) (M := M) (cv := cv) fun i r hr => (hq i r hr).2 w M (cv i) fun j x hx => hrp i r j x hr hx
    have hrl : (Tr.rowsL l).length = rows.length := by rw [Tr.rows_len, hl]
    have rowT : ∀ (i : Nat) row, (Tr.rowsL l)[i]? = some row → ∃ T, l[i]? = some T ∧ row = T.cells ∧ ∃ r, rows[i]? = some r := fun i row hr => by
      rw [Tr.rowsL_eq, List.getElem?_map] at hr
      cases hT : l[i]? with
      | none => rw [hT] at hr; cases hr
      | some T =>
        rw [hT] at hr
        cases hr
        have : i < rows.length := by have := (List.getElem?_eq_some_iff.1 hT).1; omega
        exact ⟨T, rfl, rfl, _, List.getElem?_eq_getElem this⟩
    refine ⟨l, hl, fun t ht => ?_, ?_⟩
    · obtain ⟨i, hi⟩ := List.getElem?_of_mem ht
      exact (hl' i t hi).1
    · rw [show RP w M (.isl 8 (Tr.rowsL l) none) (.slice (some a) rows.length c) = RP w M (.isl 8 (Tr.rowsL l) none) (.slice (some a) (Tr.rowsL l).length c) by rw [hrl]]
      refine .isl (cv := cv) hs hM hb (by rw [hrl]; exact hc) (fun k hk => by cases hk) (fun i row hr => ?_) (fun i row j x hr hx => ?_) (fun i row j x hr hx => ?_) (fun i row j x hr hx => ?_)
      · obtain ⟨T, _, rfl, _⟩ := rowT i row hr
        exact T.len8
      · obtain ⟨T, _, rfl, _⟩ := rowT i row hr
        exact cells_one T hx
      · obtain ⟨T, _, rfl, r, hr'⟩ := rowT i row hr
        have hj : j < 8 := by have := (List.getElem?_eq_some_iff.1 hx).1; rw [T.len8] at this; exact this
        have h8 := (hq i r hr').1
        have hw : wd = 8 := by rw [← hrow i r hr', h8]
        have := hcell i r j _ hr' (List.getElem?_eq_getElem (by rw [h8]; exact hj))
        rw [hw] at this
        exact this
      · obtain ⟨T, hT, rfl, _⟩ := rowT i row hr
        exact (hl' i T hT).2 j x hx

section
variable {P : Program} {tRe tI tS tU tL : TypeId} {fs : Array Field}

theorem re_shp (hRe : P.underlying tRe = some (.struct fs)) (hfs : fs.size = 5) (h0 : ∀ f, fs[0]? = some f → f.type = tI) (h1 : ∀ f, fs[1]? = some f → f.type = tS) (h2 : ∀ f, fs[2]? = some f → f.type = tL)
    (h3 : ∀ f, fs[3]? = some f → f.type = tI) (h4 : ∀ f, fs[4]? = some f → f.type = tI) (hI : P.underlying tI = some (.int .i64)) (hS : P.underlying tS = some (.array 4 tU)) (hU : P.underlying tU = some (.int .u64))
    (hL : P.underlying tL = some (.slice tRe)) {t : TypeId} {q : List PV} (h : Shp P t q) :
    (t = tRe → ReQ q) ∧ (t = tL → ∀ w rows cap, q = [.isl w rows cap] → rows.length ≤ maxLen ∧ ∀ (i : Nat) r, rows[i]? = some r → ReQ r) := by
  induction h with
  | b x ht => exact ⟨fun e => (by subst e; rw [hRe] at ht; cases ht), fun e => (by subst e; rw [hL] at ht; cases ht)⟩
  | int ht hw => exact ⟨fun e => (by subst e; rw [hRe] at ht; cases ht), fun e => (by subst e; rw [hL] at ht; cases ht)⟩
  | str ht hl => exact ⟨fun e => (by subst e; rw [hRe] at ht; cases ht), fun e => (by subst e; rw [hL] at ht; cases ht)⟩
  | nil ht => exact ⟨fun e => (by subst e; rw [hRe] at ht; cases ht), fun e w rows cap hq => (by cases hq; exact ⟨by simp, fun i r hr => (by simp at hr)⟩)⟩
  | sl ht hl hr ih =>
    refine ⟨fun e => (by subst e; rw [hRe] at ht; cases ht), fun e w rows cap hq => ?_⟩
    subst e
    rw [hL] at ht
    cases ht
    cases hq
    exact ⟨hl, fun i r hr' => (ih i r hr').1 rfl⟩
  | arr ht hn hr => exact ⟨fun e => (by subst e; rw [hRe] at ht; cases ht), fun e => (by subst e; rw [hL] at ht; cases ht)⟩
  | struct ht hn hr ih =>
    rename_i t' fs' parts
    refine ⟨fun e => ?_, fun e => (by subst e; rw [hL] at ht; cases ht)⟩
    subst e
    rw [hRe] at ht
    cases ht
    have fld : ∀ i, i < 5 → ∃ f, fs[i]? = some f := fun i hi => ⟨_, Array.getElem?_eq_getElem (by omega)⟩
    match parts, hn, hr, ih with
    | [], hn, _, _ => rw [hfs] at hn; cases hn
    | [_], hn, _, _ => rw [hfs] at hn; cases hn
    | [_, _], hn, _, _ => rw [hfs] at hn; cases hn
    | [_, _, _], hn, _, _ => rw [hfs] at hn; cases hn
    | [_, _, _, _], hn, _, _ => rw [hfs] at hn; cases hn
    | _ :: _ :: _ :: _ :: _ :: _ :: _, hn, _, _ => rw [hfs] at hn; simp at hn
    | [p0, p1, p2, p3, p4], hn, hr, ih =>
      obtain ⟨f0, e0⟩ := fld 0 (by decide)
      obtain ⟨f1, e1⟩ := fld 1 (by decide)
      obtain ⟨f2, e2⟩ := fld 2 (by decide)
      obtain ⟨f3, e3⟩ := fld 3 (by decide)
      obtain ⟨f4, e4⟩ := fld 4 (by decide)
      obtain ⟨k, rfl, _⟩ := (h0 f0 e0 ▸ hr 0 f0 p0 e0 rfl).int_inv hI
      obtain ⟨lo, rfl, _⟩ := (h3 f3 e3 ▸ hr 3 f3 p3 e3 rfl).int_inv hI
      obtain ⟨hi, rfl, _⟩ := (h4 f4 e4 ▸ hr 4 f4 p4 e4 rfl).int_inv hI
      obtain ⟨sp, rfl, hsn, hsr⟩ := (h1 f1 e1 ▸ hr 1 f1 p1 e1 rfl).arr_inv hS
      obtain ⟨wd, rows, cap, rfl, _⟩ := (h2 f2 e2 ▸ hr 2 f2 p2 e2 rfl).sl_inv hL
      obtain ⟨hlen, hrows⟩ := (ih 2 f2 _ e2 rfl).2 (h2 f2 e2) wd rows cap rfl
      match sp, hsn, hsr with
      | [s0, s1, s2, s3], _, hsr =>
        obtain ⟨n0, rfl, w0⟩ := (hsr 0 s0 rfl).int_inv hU
        obtain ⟨n1, rfl, w1⟩ := (hsr 1 s1 rfl).int_inv hU
        obtain ⟨n2, rfl, w2⟩ := (hsr 2 s2 rfl).int_inv hU
        obtain ⟨n3, rfl, w3⟩ := (hsr 3 s3 rfl).int_inv hU
        obtain ⟨b0, eb0⟩ := u64_of w0
        obtain ⟨b1, eb1⟩ := u64_of w1
        obtain ⟨b2, eb2⟩ := u64_of w2
        obtain ⟨b3, eb3⟩ := u64_of w3
        rw [eb0, eb1, eb2, eb3]
        refine ⟨rfl, fun w M cv hcv => ?_⟩
        obtain ⟨l, hl, hfit, hrp⟩ := re_slice hrows hlen (hcv 5 (.isl wd rows cap) rfl)
        refine ⟨.mk k ⟨b0, b1, b2, b3⟩ l lo hi, .mk ?_ hfit, fun j x hx => ?_⟩
        · have : rows.length ≤ maxLen := hlen
          unfold maxLen at this
          omega
        · match j, hx with
          | 0, hx => cases hx; exact hcv 0 _ rfl
          | 1, hx => cases hx; exact hcv 1 _ rfl
          | 2, hx => cases hx; exact hcv 2 _ rfl
          | 3, hx => cases hx; exact hcv 3 _ rfl
          | 4, hx => cases hx; exact hcv 4 _ rfl
          | 5, hx => cases hx; exact hrp
          | 6, hx => cases hx; exact hcv 6 _ rfl
          | 7, hx => cases hx; exact hcv 7 _ rfl

end

/-- A tree's cells make its value. -/
theorem tree_pv {xs : List PV} (hq : ReQ xs) {w : World} {M : Nat → Prop} {v : Value} (h : RP w M (.agg xs) v) : ∃ T : Tr, T.Fit ∧ RP w M T.pv v := by
  cases h with
  | agg hl hone hc =>
    rename_i cs
    obtain ⟨T, hT, hTc⟩ := hq.2 w M (fun i => cs.getD i undef) fun i x hx => hc i x hx
    exact ⟨T, hT, .agg (by rw [hl, hq.1, T.len8]) (fun i x hx => cells_one T hx) hTc⟩

end Hk
