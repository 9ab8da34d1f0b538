/- What an argument's pure value is, by its type. -/
import Derived.Test.YtmgkffdnnjpmpaaHkRead3
namespace Hk
open Go Go.ChangeShapes Go.WideShapes Go.RowKit
set_option linter.unusedVariables false
set_option linter.unusedSimpArgs false

section
variable {P : Program} {t : TypeId} {r : List PV}

theorem Shp.b_inv (ht : P.underlying t = some .bool) (h : Shp P t r) : ∃ x, r = [.b x] := by
  cases h with
  | b y h' => exact ⟨_, rfl⟩
  | int h' hw => rw [ht] at h'; cases h'
  | str h' hl => rw [ht] at h'; cases h'
  | nil h' => rw [ht] at h'; cases h'
  | sl h' hl hr => rw [ht] at h'; cases h'
  | arr h' hn hr => rw [ht] at h'; cases h'
  | struct h' hn hr => rw [ht] at h'; cases h'

theorem Shp.int_inv {k : IntKind} (ht : P.underlying t = some (.int k)) (h : Shp P t r) : ∃ n, r = [.int k n] ∧ (Lit.int k n).wf = true := by
  cases h with
  | int h' hw => rw [ht] at h'; cases h'; exact ⟨_, rfl, hw⟩
  | b y h' => rw [ht] at h'; cases h'
  | str h' hl => rw [ht] at h'; cases h'
  | nil h' => rw [ht] at h'; cases h'
  | sl h' hl hr => rw [ht] at h'; cases h'
  | arr h' hn hr => rw [ht] at h'; cases h'
  | struct h' hn hr => rw [ht] at h'; cases h'

theorem Shp.str_inv (ht : P.underlying t = some .string) (h : Shp P t r) : ∃ l, r = [.str l] ∧ l.length ≤ maxLen := by
  cases h with
  | str h' hl => exact ⟨_, rfl, hl⟩
  | b y h' => rw [ht] at h'; cases h'
  | int h' hw => rw [ht] at h'; cases h'
  | nil h' => rw [ht] at h'; cases h'
  | sl h' hl hr => rw [ht] at h'; cases h'
  | arr h' hn hr => rw [ht] at h'; cases h'
  | struct h' hn hr => rw [ht] at h'; cases h'

theorem Shp.sl_inv {e : TypeId} (ht : P.underlying t = some (.slice e)) (h : Shp P t r) : ∃ w rows cap, r = [.isl w rows cap] ∧ (rows = [] ∧ w = 0 ∧ cap = some 0 ∨ w = P.cellsOf e ∧ cap = none) ∧ rows.length ≤ maxLen ∧
    ∀ (i : Nat) q, rows[i]? = some q → Shp P e q := by
  cases h with
  | nil h' => exact ⟨_, _, _, rfl, .inl ⟨rfl, rfl, rfl⟩, by simp, fun i q hq => by simp at hq⟩
  | sl h' hl hr => rw [ht] at h'; cases h'; exact ⟨_, _, _, rfl, .inr ⟨rfl, rfl⟩, hl, hr⟩
  | str h' hl => rw [ht] at h'; cases h'
  | b y h' => rw [ht] at h'; cases h'
  | int h' hw => rw [ht] at h'; cases h'
  | arr h' hn hr => rw [ht] at h'; cases h'
  | struct h' hn hr => rw [ht] at h'; cases h'

theorem Shp.arr_inv {n : Nat} {e : TypeId} (ht : P.underlying t = some (.array n e)) (h : Shp P t r) : ∃ parts : List (List PV), r = parts.flatten ∧ parts.length = n ∧ ∀ (i : Nat) q, parts[i]? = some q → Shp P e q := by
  cases h with
  | arr h' hn hr => rw [ht] at h'; cases h'; exact ⟨_, rfl, hn, hr⟩
  | nil h' => rw [ht] at h'; cases h'
  | sl h' hl hr => rw [ht] at h'; cases h'
  | str h' hl => rw [ht] at h'; cases h'
  | b y h' => rw [ht] at h'; cases h'
  | int h' hw => rw [ht] at h'; cases h'
  | struct h' hn hr => rw [ht] at h'; cases h'

theorem Shp.struct_inv {fs : Array Field} (ht : P.underlying t = some (.struct fs)) (h : Shp P t r) : ∃ parts : List (List PV), r = parts.flatten ∧ parts.length = fs.size ∧
    ∀ (i : Nat) f q, fs[i]? = some f → parts[i]? = some q → Shp P f.type q := by
  cases h with
  | struct h' hn hr => rw [ht] at h'; cases h'; exact ⟨_, rfl, hn, hr⟩
  | arr h' hn hr => rw [ht] at h'; cases h'
  | nil h' => rw [ht] at h'; cases h'
  | sl h' hl hr => rw [ht] at h'; cases h'
  | str h' hl => rw [ht] at h'; cases h'
  | b y h' => rw [ht] at h'; cases h'
  | int h' hw => rw [ht] at h'; cases h'

theorem ArgShp.one_inv {x : PV} (ha : aggT P t = some false) (h : ArgShp P t x) : Shp P t [x] := by
  cases h with
  | one _ h' hs => exact hs
  | agg xs h' hs => rw [ha] at h'; cases h'

theorem ArgShp.agg_inv {x : PV} (ha : aggT P t = some true) (h : ArgShp P t x) : ∃ xs, x = .agg xs ∧ Shp P t xs := by
  cases h with
  | one _ h' hs => rw [ha] at h'; cases h'
  | agg xs h' hs => exact ⟨_, rfl, hs⟩

theorem ArgShp.str {x : PV} (ht : P.underlying t = some .string) (h : ArgShp P t x) : ∃ l, x = .str l ∧ l.length ≤ maxLen := by
  obtain ⟨l, h1, h2⟩ := (h.one_inv (by simp [aggT, ht])).str_inv ht
  simp only [List.cons.injEq, and_true] at h1
  exact ⟨l, h1, h2⟩

theorem ArgShp.bool {x : PV} (ht : P.underlying t = some .bool) (h : ArgShp P t x) : ∃ b, x = .b b := by
  obtain ⟨l, h1⟩ := (h.one_inv (by simp [aggT, ht])).b_inv ht
  simp only [List.cons.injEq, and_true] at h1
  exact ⟨l, h1⟩

theorem ArgShp.int {x : PV} {k : IntKind} (ht : P.underlying t = some (.int k)) (h : ArgShp P t x) : ∃ n, x = .int k n ∧ (Lit.int k n).wf = true := by
  obtain ⟨l, h1, h2⟩ := (h.one_inv (by simp [aggT, ht])).int_inv ht
  simp only [List.cons.injEq, and_true] at h1
  exact ⟨l, h1, h2⟩

theorem ArgShp.sl {x : PV} {e : TypeId} (ht : P.underlying t = some (.slice e)) (h : ArgShp P t x) : ∃ w rows cap, x = .isl w rows cap ∧ (rows = [] ∧ w = 0 ∧ cap = some 0 ∨ w = P.cellsOf e ∧ cap = none) ∧ rows.length ≤ maxLen ∧
    ∀ (i : Nat) q, rows[i]? = some q → Shp P e q := by
  obtain ⟨w, rows, cap, h1, h2⟩ := (h.one_inv (by simp [aggT, ht])).sl_inv ht
  simp only [List.cons.injEq, and_true] at h1
  exact ⟨w, rows, cap, h1, h2⟩

/-- Rows, each of which is made of something. -/
theorem rows_of {α : Type} {mk : α → List PV} : ∀ {rows : List (List PV)}, (∀ (i : Nat) q, rows[i]? = some q → ∃ a, q = mk a) → ∃ l : List α, rows = l.map mk
  | [], _ => ⟨[], rfl⟩
  | q :: r, h => by
    obtain ⟨a, rfl⟩ := h 0 q rfl
    obtain ⟨l, rfl⟩ := rows_of (rows := r) fun i q' hq => h (i + 1) q' (by simpa using hq)
    exact ⟨a :: l, rfl⟩
end

end Hk
