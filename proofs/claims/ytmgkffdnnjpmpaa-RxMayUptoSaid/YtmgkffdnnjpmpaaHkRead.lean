/- Arguments as they are read: the pure values of data of plain types. -/
import Derived.Test.YtmgkffdnnjpmpaaHkWrap
import Derived.Carry
namespace Hk
open Go Go.ChangeShapes Go.WideShapes Go.RowKit
set_option linter.unusedVariables false

/-- The cells of a plain type, as pure values. -/
inductive Shp (P : Program) : TypeId → List PV → Prop
  | b {t : TypeId} (x : Bool) (ht : P.underlying t = some .bool) : Shp P t [.b x]
  | int {t : TypeId} {k : IntKind} {n : Int} (ht : P.underlying t = some (.int k)) (hw : (Lit.int k n).wf = true) : Shp P t [.int k n]
  | str {t : TypeId} {l : List UInt8} (ht : P.underlying t = some .string) (hl : l.length ≤ maxLen) : Shp P t [.str l]
  | nil {t e : TypeId} (ht : P.underlying t = some (.slice e)) : Shp P t [.isl 0 [] (some 0)]
  | sl {t e : TypeId} {rows : List (List PV)} (ht : P.underlying t = some (.slice e)) (hl : rows.length ≤ maxLen) (hr : ∀ (i : Nat) r, rows[i]? = some r → Shp P e r) : Shp P t [.isl (P.cellsOf e) rows none]
  | arr {t e : TypeId} {n : Nat} {parts : List (List PV)} (ht : P.underlying t = some (.array n e)) (hn : parts.length = n) (hr : ∀ (i : Nat) r, parts[i]? = some r → Shp P e r) : Shp P t parts.flatten
  | struct {t : TypeId} {fs : Array Field} {parts : List (List PV)} (ht : P.underlying t = some (.struct fs)) (hn : parts.length = fs.size)
      (hr : ∀ (i : Nat) f r, fs[i]? = some f → parts[i]? = some r → Shp P f.type r) : Shp P t parts.flatten

theorem Kept.at {W W' : World} (hk : Kept W W') {i : Nat} (hi : i < W.heap.size) : W'.heap[i]? = W.heap[i]? := by
  have e := hk.1 i _ (Array.getElem?_eq_getElem hi)
  rw [e, Array.getElem?_eq_getElem hi]

theorem Kept.same {W W' : World} (hk : Kept W W') {p : MemPlace} (hp : p.block < W.heap.size) : W.sameAt W' p := by
  cases p with
  | cell b off =>
    have e : W'.heap[b]? = W.heap[b]? := hk.at hp
    show W'.cell? _ = W.cell? _
    simp only [World.cell?, e]
  | map b => exact hk.at hp

theorem args_stay {H : Type} {enc : TypeId × Value → H} {P : Program} (hl : laidOutB P = true) {W W' : World} (hk : Kept W W') {sp : Nat → Bool} :
    ∀ {ts : List TypeId} {vs : List Value} {ds : List (DataW H)} {ps : List MemPlace}, (∀ t ∈ ts, P.readableRec t = true ∧ t < P.types.size) → DataW.TrodAll enc P W 0 (fun _ => true) true ts vs ds ps →
      (∀ p ∈ ps, p.block < W.heap.size) → (∀ p ∈ ps, sp p.block = true) → DataW.TrodAll enc P W' 0 sp true ts vs ds ps
  | [], [], [], ps, _, h, _, _ => h
  | t :: ts, v :: vs, d :: ds, ps, ht, h, hlt, hs => by
    obtain ⟨p, q, h1, h2, rfl⟩ := h
    exact ⟨p, q, WideElems.Trod_stays hl (ht t (by simp)).1 (ht t (by simp)).2 h1 (fun x hx => hk.same (hlt x (by simp [hx]))) (fun x hx => hs x (by simp [hx])),
      args_stay hl hk (fun t h => ht t (by simp [h])) h2 (fun x hx => hlt x (by simp [hx])) (fun x hx => hs x (by simp [hx])), rfl⟩
  | [], _ :: _, _, _, _, h, _, _ => h.elim
  | [], [], _ :: _, _, _, h, _, _ => h.elim
  | _ :: _, [], _, _, _, h, _, _ => h.elim
  | _ :: _, _ :: _, [], _, _, h, _, _ => h.elim

/-! ### What is read -/

def denseF (P : Program) (L : List TypeId) : Nat → List Field → Nat → Bool
  | off, [], total => off == total
  | off, f :: r, total => f.offset == off && L.contains f.type && denseF P L (off + P.cellsOf f.type) r total

/-- Types of ints, bools and strings, of arrays, structs and slices of such. -/
def closedT (P : Program) (L : List TypeId) : Bool := L.all fun t => match P.underlying t with
  | some .bool | some (.int _) | some .string => true
  | some (.slice e) => L.contains e && decide (0 < P.cellsOf e)
  | some (.array n e) => L.contains e && P.cellsOf t == n * P.cellsOf e
  | some (.struct fs) => denseF P L 0 fs.toList (P.cellsOf t)
  | _ => false

/-- Cells as pure values. -/
def Are (W : World) (xs : List PV) (cs : List Value) : Prop := xs.length = cs.length ∧ ∀ (i : Nat) x, xs[i]? = some x → x.one = true ∧ RP W noInj.M x (cs.getD i undef)

theorem Are.one {W : World} {x : PV} {c : Value} (h1 : x.one = true) (h : RP W noInj.M x c) : Are W [x] [c] := by
  refine ⟨rfl, fun i y hi => ?_⟩
  cases i with
  | zero => simp at hi; subst hi; exact ⟨h1, by simpa using h⟩
  | succ i => simp at hi

theorem Are.append {W : World} {xs ys : List PV} {cs ds : List Value} (h1 : Are W xs cs) (h2 : Are W ys ds) : Are W (xs ++ ys) (cs ++ ds) := by
  refine ⟨by simp [h1.1, h2.1], fun i x hi => ?_⟩
  rw [List.getElem?_append] at hi
  split at hi
  · rename_i hlt
    obtain ⟨g1, g2⟩ := h1.2 i x hi
    refine ⟨g1, ?_⟩
    have : i < cs.length := by rw [← h1.1]; exact hlt
    simpa [List.getElem?_append, this] using g2
  · rename_i hge
    obtain ⟨g1, g2⟩ := h2.2 _ x hi
    refine ⟨g1, ?_⟩
    have : ¬ i < cs.length := by rw [← h1.1]; exact hge
    rw [h1.1] at g2
    simpa [List.getElem?_append, this] using g2

end Hk
