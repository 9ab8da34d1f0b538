/- Trees of rules: the model of api.Re. -/
import Derived.Test.YtmgkffdnnjpmpaaHkDrv
namespace Hk
open Go
set_option linter.unusedVariables false

/-- A set of bytes: four words. -/
structure Set4 where
  a : BitVec 64
  b : BitVec 64
  c : BitVec 64
  d : BitVec 64
deriving DecidableEq

def Set4.nil : Set4 := ⟨0, 0, 0, 0⟩
def Set4.cells (s : Set4) : List PV := [u64 s.a, u64 s.b, u64 s.c, u64 s.d]
def Set4.word (s : Set4) : Nat → BitVec 64
  | 0 => s.a
  | 1 => s.b
  | 2 => s.c
  | _ => s.d
def Set4.has (s : Set4) (b : Nat) : Bool := (s.word (b / 64)).getLsbD (b % 64)
def Set4.or (s t : Set4) : Set4 := ⟨s.a ||| t.a, s.b ||| t.b, s.c ||| t.c, s.d ||| t.d⟩

theorem Set4.has_or (s t : Set4) (b : Nat) : (s.or t).has b = (s.has b || t.has b) := by
  unfold Set4.has
  have : ∀ i, (s.or t).word i = s.word i ||| t.word i := fun i => by
    match i with
    | 0 => rfl
    | 1 => rfl
    | 2 => rfl
    | _ + 3 => rfl
  rw [this, BitVec.getLsbD_or]

theorem Set4.has_nil (b : Nat) : Set4.nil.has b = false := by
  unfold Set4.has
  have : ∀ i, Set4.nil.word i = 0 := fun i => by
    match i with
    | 0 => rfl
    | 1 => rfl
    | 2 => rfl
    | _ + 3 => rfl
  rw [this]
  simp

inductive Tr where
  | mk (kind : Int) (set : Set4) (sub : List Tr) (lo hi : Int)

namespace Tr

mutual
def cells : Tr → List PV
  | .mk k s sub lo hi => [i64 k, u64 s.a, u64 s.b, u64 s.c, u64 s.d, .isl 8 (rowsL sub) none, i64 lo, i64 hi]
def rowsL : List Tr → List (List PV)
  | [] => []
  | t :: r => t.cells :: rowsL r
end

theorem rowsL_eq : ∀ l : List Tr, rowsL l = l.map cells
  | [] => rfl
  | t :: r => by rw [rowsL, rowsL_eq r]; rfl

def pv (t : Tr) : PV := .agg t.cells

mutual
theorem ind' {P : Tr → Prop} (h : ∀ k s sub lo hi, (∀ t ∈ sub, P t) → P (.mk k s sub lo hi)) : ∀ t : Tr, P t
  | .mk k s sub lo hi => h k s sub lo hi (indL h sub)
theorem indL {P : Tr → Prop} (h : ∀ k s sub lo hi, (∀ t ∈ sub, P t) → P (.mk k s sub lo hi)) : ∀ (l : List Tr), ∀ t ∈ l, P t
  | [] => fun t ht => by cases ht
  | x :: r => fun t ht => by
    rcases List.mem_cons.1 ht with e | ht
    · exact e ▸ ind' h x
    · exact indL h r t ht
end

/-- No slice in it is too long. -/
inductive Fit : Tr → Prop
  | mk {k s sub lo hi} (hn : sub.length < 2 ^ 63) (hs : ∀ t ∈ sub, Fit t) : Fit (.mk k s sub lo hi)

theorem Fit.len {k s sub lo hi} (h : Fit (.mk k s sub lo hi)) : sub.length < 2 ^ 63 := by cases h; assumption
theorem Fit.sub {k s sub lo hi} (h : Fit (.mk k s sub lo hi)) : ∀ t ∈ sub, Fit t := by cases h; assumption

mutual
def nodes : Tr → Nat
  | .mk _ _ sub _ _ => 1 + (nodesL sub).sum
def nodesL : List Tr → List Nat
  | [] => []
  | t :: r => t.nodes :: nodesL r
end
theorem nodesL_eq : ∀ l : List Tr, nodesL l = l.map nodes
  | [] => rfl
  | t :: r => by rw [nodesL, nodesL_eq r]; rfl
theorem nodes_mk (k s sub lo hi) : nodes (.mk k s sub lo hi) = 1 + (sub.map nodes).sum := by rw [nodes, nodesL_eq]

mutual
def deep : Tr → Nat
  | .mk _ _ sub _ _ => (deepL sub).foldl max 0 + 1
def deepL : List Tr → List Nat
  | [] => []
  | t :: r => t.deep :: deepL r
end
theorem deepL_eq : ∀ l : List Tr, deepL l = l.map deep
  | [] => rfl
  | t :: r => by rw [deepL, deepL_eq r]; rfl
theorem deep_mk (k s sub lo hi) : deep (.mk k s sub lo hi) = (sub.map deep).foldl max 0 + 1 := by rw [deep, deepL_eq]

def wstep (n w : Nat) : Nat := min (n + w) 1000000
def wend (k hi : Int) (n : Nat) : Nat :=
  let n := if k = 4 ∧ 1 < hi ∧ hi ≤ 64 then min (n * hi.toNat) 1000000 else n
  if k = 4 ∧ hi < 0 then min (n * 70) 1000000 else n

mutual
def weight : Tr → Nat
  | .mk k _ sub _ hi => wend k hi ((weightL sub).foldl wstep 1)
def weightL : List Tr → List Nat
  | [] => []
  | t :: r => t.weight :: weightL r
end
theorem weightL_eq : ∀ l : List Tr, weightL l = l.map weight
  | [] => rfl
  | t :: r => by rw [weightL, weightL_eq r]; rfl
theorem weight_mk (k s sub lo hi) : weight (.mk k s sub lo hi) = wend k hi ((sub.map weight).foldl wstep 1) := by rw [weight, weightL_eq]

/-- May a node be? -/
def okn (k : Int) (s : Set4) (n : Nat) (lo hi : Int) : Bool :=
  if k ≠ 1 ∧ s ≠ .nil ∨ k ≠ 4 ∧ (lo ≠ 0 ∨ hi ≠ 0) then false
  else if k = 0 ∨ k = 1 then decide (n = 0)
  else if k = 2 ∨ k = 3 then decide (2 ≤ n)
  else if k = 4 then decide (n = 1 ∧ 0 ≤ lo ∧ lo ≤ 64 ∧ (hi = -1 ∨ lo ≤ hi ∧ hi ≤ 64))
  else false

mutual
def ok : Tr → Bool
  | .mk k s sub lo hi => okL sub && okn k s sub.length lo hi
def okL : List Tr → Bool
  | [] => true
  | t :: r => t.ok && okL r
end
theorem okL_eq : ∀ l : List Tr, okL l = l.all ok
  | [] => rfl
  | t :: r => by rw [okL, okL_eq r]; rfl
theorem ok_mk (k s sub lo hi) : ok (.mk k s sub lo hi) = (sub.all ok && okn k s sub.length lo hi) := by rw [ok, okL_eq]

def may (t : Tr) : Bool := decide (t.nodes ≤ 300) && decide (t.deep ≤ 30) && t.ok

mutual
def void : Tr → Bool
  | .mk k s sub lo _ => if k = 0 then false else if k = 1 then decide (s = .nil) else if k = 2 then (voidL sub).any id else if k = 3 then (voidL sub).all id else decide (0 < lo) && (voidL sub).headD false
def voidL : List Tr → List Bool
  | [] => []
  | t :: r => t.void :: voidL r
end
theorem voidL_eq : ∀ l : List Tr, voidL l = l.map void
  | [] => rfl
  | t :: r => by rw [voidL, voidL_eq r]; rfl

mutual
def sets : Tr → List Set4
  | .mk k s sub _ _ => if k = 1 then [s] else setsL sub
def setsL : List Tr → List Set4
  | [] => []
  | t :: r => t.sets ++ setsL r
end
theorem setsL_eq : ∀ l : List Tr, setsL l = (l.map sets).flatten
  | [] => rfl
  | t :: r => by rw [setsL, setsL_eq r]; rfl

end Tr

/-- Facts of a tree. -/
structure Facts where
  void : Bool
  empty : Bool
  first : Set4
  last : Set4

namespace Facts
def cells (f : Facts) : List PV := [.b f.void, .b f.empty] ++ f.first.cells ++ f.last.cells
def pv (f : Facts) : PV := .agg f.cells
def bad : Facts := ⟨true, false, .nil, .nil⟩
def then' (f g : Facts) : Facts :=
  if f.void || g.void then bad
  else ⟨false, f.empty && g.empty, if f.empty then f.first.or g.first else f.first, if g.empty then g.last.or f.last else g.last⟩
def or' (f g : Facts) : Facts := ⟨f.void && g.void, f.empty || g.empty, f.first.or g.first, f.last.or g.last⟩
def rep (f : Facts) (lo hi : Int) : Facts :=
  if hi = 0 then ⟨false, true, .nil, .nil⟩
  else if f.void then ⟨decide (0 < lo), decide (lo = 0), .nil, .nil⟩
  else ⟨f.void, f.empty || decide (lo = 0), f.first, f.last⟩
def zero : Facts := ⟨false, false, .nil, .nil⟩
def join (g : Facts → Facts → Facts) : List Facts → Facts
  | [] => zero
  | f :: r => r.foldl g f
end Facts

namespace Tr
mutual
def facts : Tr → Facts
  | .mk k s sub lo hi =>
    if k = 1 then ⟨decide (s = .nil), false, s, s⟩
    else if k = 2 then Facts.join .then' (factsL sub)
    else if k = 3 then Facts.join .or' (factsL sub)
    else if k = 4 then ((factsL sub).headD .zero).rep lo hi
    else ⟨false, true, .nil, .nil⟩
def factsL : List Tr → List Facts
  | [] => []
  | t :: r => t.facts :: factsL r
end
theorem factsL_eq : ∀ l : List Tr, factsL l = l.map facts
  | [] => rfl
  | t :: r => by rw [factsL, factsL_eq r]; rfl

end Tr

/-! ### Where texts end -/

abbrev Pl := Nat → Bool
def comp (l : List (Pl → Pl)) (f : Pl) : Pl := l.foldl (fun f e => e f) f
def iter (e : Pl → Pl) : Nat → Pl → Pl
  | 0, f => f
  | n + 1, f => e (iter e n f)
def repE (e : Pl → Pl) (lo most : Nat) (f : Pl) : Pl := fun j => (List.range (most + 1)).any fun n => decide (lo ≤ n) && iter e n f j
def oneE (s : List UInt8) (set : Set4) (f : Pl) : Pl
  | 0 => false
  | i + 1 => f i && (match s[i]? with | some c => set.has c.toNat | none => false)
def most (s : List UInt8) (lo hi : Int) : Int := if hi < 0 then lo + s.length + 1 else hi

namespace Tr
mutual
def ends (s : List UInt8) : Tr → Pl → Pl
  | .mk k set sub lo hi =>
    if k = 0 then id
    else if k = 1 then oneE s set
    else if k = 2 then comp (endsL s sub)
    else if k = 3 then fun f j => (endsL s sub).any fun e => e f j
    else repE ((endsL s sub).headD id) lo.toNat (most s lo hi).toNat
def endsL (s : List UInt8) : List Tr → List (Pl → Pl)
  | [] => []
  | t :: r => t.ends s :: endsL s r
end
theorem endsL_eq (s) : ∀ l : List Tr, endsL s l = l.map (ends s)
  | [] => rfl
  | t :: r => by rw [endsL, endsL_eq s r]; rfl
end Tr

end Hk
