/- The walks of Same and made; the law of texts. -/
import Derived.Test.YtmgkffdnnjpmpaaHkRxM
namespace Hk
open Go Go.Proofs
set_option linter.unusedVariables false
set_option linter.unusedSimpArgs false
set_option maxRecDepth 100000

namespace Tr
mutual
def same : Tr → Tr → Bool
  | .mk k s sub lo hi, .mk k' s' sub' lo' hi' => decide (k = k') && (decide (s = s') && (decide (lo = lo') && (decide (hi = hi') && sameL sub sub')))
def sameL : List Tr → List Tr → Bool
  | [], [] => true
  | x :: r, y :: q => x.same y && sameL r q
  | _, _ => false
end
end Tr

theorem sameL_len : ∀ {l m : List Tr}, Tr.sameL l m = true → l.length = m.length
  | [], [], _ => rfl
  | x :: r, y :: q, h => by
    rw [Tr.sameL, Bool.and_eq_true] at h
    rw [List.length_cons, List.length_cons, sameL_len h.2]
  | [], _ :: _, h => by simp [Tr.sameL] at h
  | _ :: _, [], h => by simp [Tr.sameL] at h

theorem sameL_iff : ∀ {l m : List Tr}, l.length = m.length → (Tr.sameL l m = true ↔ ∀ (i : Nat) x y, l[i]? = some x → m[i]? = some y → x.same y = true)
  | [], [], _ => ⟨fun _ i x y h => by simp at h, fun _ => by rw [Tr.sameL]⟩
  | x :: r, y :: q, h => by
    rw [Tr.sameL, Bool.and_eq_true, sameL_iff (l := r) (m := q) (by simpa using h)]
    constructor
    · rintro ⟨h1, h2⟩ i a b ha hb
      cases i with
      | zero => cases ha; cases hb; exact h1
      | succ i => exact h2 i a b (by simpa using ha) (by simpa using hb)
    · intro h
      exact ⟨h 0 x y rfl rfl, fun i a b ha hb => h (i + 1) a b (by simpa using ha) (by simpa using hb)⟩

theorem same_refl (T : Tr) : T.same T = true := by
  induction T using Tr.ind' with | h k s sub lo hi ih => ?_
  rw [Tr.same]
  simp only [decide_true, Bool.true_and]
  rw [sameL_iff rfl]
  intro i x y hx hy
  rw [hx] at hy
  cases hy
  exact ih x (mem_get hx)

theorem bk_ncells {K : Bool → Prop} (s t : Set4) (h1 : s = t → K false) (h2 : s ≠ t → K true) :
    bk (!cellsEq [u64 s.a, u64 s.b, u64 s.c, u64 s.d] [u64 t.a, u64 t.b, u64 t.c, u64 t.d]) K := by
  have e : cellsEq [u64 s.a, u64 s.b, u64 s.c, u64 s.d] [u64 t.a, u64 t.b, u64 t.c, u64 t.d] = decide (s = t) := by
    have h := cells8 0 0 0 0 0 0 0 0 s t
    simp only [cellsEq, cellEq, true_and] at h ⊢
    simpa using h
  rw [e]
  by_cases h : s = t
  · rw [decide_eq_true h]; exact ⟨h1 h⟩
  · rw [decide_eq_false h]; exact ⟨h2 h⟩

theorem refSame_fn (A B : Tr) (hA : A.Fit) (hB : B.Fit) : PF Try.prog 44 [A.pv, B.pv] (.b (A.same B)) := by
  induction A using Tr.ind' generalizing B with | h k s sub lo hi ih => ?_
  obtain ⟨k', s', sub', lo', hi'⟩ := B
  have hl := Tr.rows_len sub
  have hl' := Tr.rows_len sub'
  have hn := hA.len
  have hn' := hB.len
  by_cases h1 : k = k'
  case neg =>
    have e : (Tr.mk k s sub lo hi).same (.mk k' s' sub' lo' hi') = false := by rw [Tr.same, decide_eq_false h1]; rfl
    rw [e]
    refine pf_intro rf44_eq rmixed rfl ?_
    ((conv => whnf) <;> (repeat (first | (refine And.intro (by first | omega | exact rfl | exact trivial | exact Nat.le_of_ble_eq_true rfl | (simp only [List.length_cons, List.length_nil]; omega)) ?_; conv => whnf) | (refine And.intro ?_ trivial; conv => whnf) | ((with_reducible refine bk_true ?_); conv => whnf) | ((with_reducible refine bk_false ?_); conv => whnf) | (refine ex_get rfl ?_; conv => whnf) | (refine ex_cs rfl rfl ?_; conv => whnf) | ((with_reducible refine bk_nt ?_); conv => whnf) | ((with_reducible refine bk_nf ?_); conv => whnf))))
    refine bk_is (neqT h1) ?_
    ((conv => whnf) <;> (repeat (first | (refine And.intro (by first | omega | exact rfl | exact trivial | exact Nat.le_of_ble_eq_true rfl | (simp only [List.length_cons, List.length_nil]; omega)) ?_; conv => whnf) | (refine And.intro ?_ trivial; conv => whnf) | ((with_reducible refine bk_true ?_); conv => whnf) | ((with_reducible refine bk_false ?_); conv => whnf) | (refine ex_get rfl ?_; conv => whnf) | (refine ex_cs rfl rfl ?_; conv => whnf) | ((with_reducible refine bk_nt ?_); conv => whnf) | ((with_reducible refine bk_nf ?_); conv => whnf))))
    exact ret_pf rfl rfl rfl
  by_cases h2 : s = s'
  case neg =>
    have e : (Tr.mk k s sub lo hi).same (.mk k' s' sub' lo' hi') = false := by rw [Tr.same, decide_eq_false h2, Bool.false_and, Bool.and_false]
    rw [e]
    refine pf_intro rf44_eq rmixed rfl ?_
    ((conv => whnf) <;> (repeat (first | (refine And.intro (by first | omega | exact rfl | exact trivial | exact Nat.le_of_ble_eq_true rfl | (simp only [List.length_cons, List.length_nil]; omega)) ?_; conv => whnf) | (refine And.intro ?_ trivial; conv => whnf) | ((with_reducible refine bk_true ?_); conv => whnf) | ((with_reducible refine bk_false ?_); conv => whnf) | (refine ex_get rfl ?_; conv => whnf) | (refine ex_cs rfl rfl ?_; conv => whnf) | ((with_reducible refine bk_nt ?_); conv => whnf) | ((with_reducible refine bk_nf ?_); conv => whnf))))
    refine bk_is (neqF h1) ?_
    ((conv => whnf) <;> (repeat (first | (refine And.intro (by first | omega | exact rfl | exact trivial | exact Nat.le_of_ble_eq_true rfl | (simp only [List.length_cons, List.length_nil]; omega)) ?_; conv => whnf) | (refine And.intro ?_ trivial; conv => whnf) | ((with_reducible refine bk_true ?_); conv => whnf) | ((with_reducible refine bk_false ?_); conv => whnf) | (refine ex_get rfl ?_; conv => whnf) | (refine ex_cs rfl rfl ?_; conv => whnf) | ((with_reducible refine bk_nt ?_); conv => whnf) | ((with_reducible refine bk_nf ?_); conv => whnf))))
    refine bk_ncells s s' (fun h => absurd h h2) (fun _ => ?_)
    ((conv => whnf) <;> (repeat (first | (refine And.intro (by first | omega | exact rfl | exact trivial | exact Nat.le_of_ble_eq_true rfl | (simp only [List.length_cons, List.length_nil]; omega)) ?_; conv => whnf) | (refine And.intro ?_ trivial; conv => whnf) | ((with_reducible refine bk_true ?_); conv => whnf) | ((with_reducible refine bk_false ?_); conv => whnf) | (refine ex_get rfl ?_; conv => whnf) | (refine ex_cs rfl rfl ?_; conv => whnf) | ((with_reducible refine bk_nt ?_); conv => whnf) | ((with_reducible refine bk_nf ?_); conv => whnf))))
    exact ret_pf rfl rfl rfl
  by_cases h3 : lo = lo'
  case neg =>
    have e : (Tr.mk k s sub lo hi).same (.mk k' s' sub' lo' hi') = false := by rw [Tr.same, decide_eq_false h3, Bool.false_and, Bool.and_false, Bool.and_false]
    rw [e]
    refine pf_intro rf44_eq rmixed rfl ?_
    ((conv => whnf) <;> (repeat (first | (refine And.intro (by first | omega | exact rfl | exact trivial | exact Nat.le_of_ble_eq_true rfl | (simp only [List.length_cons, List.length_nil]; omega)) ?_; conv => whnf) | (refine And.intro ?_ trivial; conv => whnf) | ((with_reducible refine bk_true ?_); conv => whnf) | ((with_reducible refine bk_false ?_); conv => whnf) | (refine ex_get rfl ?_; conv => whnf) | (refine ex_cs rfl rfl ?_; conv => whnf) | ((with_reducible refine bk_nt ?_); conv => whnf) | ((with_reducible refine bk_nf ?_); conv => whnf))))
    refine bk_is (neqF h1) ?_
    ((conv => whnf) <;> (repeat (first | (refine And.intro (by first | omega | exact rfl | exact trivial | exact Nat.le_of_ble_eq_true rfl | (simp only [List.length_cons, List.length_nil]; omega)) ?_; conv => whnf) | (refine And.intro ?_ trivial; conv => whnf) | ((with_reducible refine bk_true ?_); conv => whnf) | ((with_reducible refine bk_false ?_); conv => whnf) | (refine ex_get rfl ?_; conv => whnf) | (refine ex_cs rfl rfl ?_; conv => whnf) | ((with_reducible refine bk_nt ?_); conv => whnf) | ((with_reducible refine bk_nf ?_); conv => whnf))))
    refine bk_ncells s s' (fun _ => ?_) (fun h => absurd h2 h)
    ((conv => whnf) <;> (repeat (first | (refine And.intro (by first | omega | exact rfl | exact trivial | exact Nat.le_of_ble_eq_true rfl | (simp only [List.length_cons, List.length_nil]; omega)) ?_; conv => whnf) | (refine And.intro ?_ trivial; conv => whnf) | ((with_reducible refine bk_true ?_); conv => whnf) | ((with_reducible refine bk_false ?_); conv => whnf) | (refine ex_get rfl ?_; conv => whnf) | (refine ex_cs rfl rfl ?_; conv => whnf) | ((with_reducible refine bk_nt ?_); conv => whnf) | ((with_reducible refine bk_nf ?_); conv => whnf))))
    refine bk_is (neqT h3) ?_
    ((conv => whnf) <;> (repeat (first | (refine And.intro (by first | omega | exact rfl | exact trivial | exact Nat.le_of_ble_eq_true rfl | (simp only [List.length_cons, List.length_nil]; omega)) ?_; conv => whnf) | (refine And.intro ?_ trivial; conv => whnf) | ((with_reducible refine bk_true ?_); conv => whnf) | ((with_reducible refine bk_false ?_); conv => whnf) | (refine ex_get rfl ?_; conv => whnf) | (refine ex_cs rfl rfl ?_; conv => whnf) | ((with_reducible refine bk_nt ?_); conv => whnf) | ((with_reducible refine bk_nf ?_); conv => whnf))))
    exact ret_pf rfl rfl rfl
  by_cases h4 : hi = hi'
  case neg =>
    have e : (Tr.mk k s sub lo hi).same (.mk k' s' sub' lo' hi') = false := by rw [Tr.same, decide_eq_false h4, Bool.false_and, Bool.and_false, Bool.and_false, Bool.and_false]
    rw [e]
    refine pf_intro rf44_eq rmixed rfl ?_
    ((conv => whnf) <;> (repeat (first | (refine And.intro (by first | omega | exact rfl | exact trivial | exact Nat.le_of_ble_eq_true rfl | (simp only [List.length_cons, List.length_nil]; omega)) ?_; conv => whnf) | (refine And.intro ?_ trivial; conv => whnf) | ((with_reducible refine bk_true ?_); conv => whnf) | ((with_reducible refine bk_false ?_); conv => whnf) | (refine ex_get rfl ?_; conv => whnf) | (refine ex_cs rfl rfl ?_; conv => whnf) | ((with_reducible refine bk_nt ?_); conv => whnf) | ((with_reducible refine bk_nf ?_); conv => whnf))))
    refine bk_is (neqF h1) ?_
    ((conv => whnf) <;> (repeat (first | (refine And.intro (by first | omega | exact rfl | exact trivial | exact Nat.le_of_ble_eq_true rfl | (simp only [List.length_cons, List.length_nil]; omega)) ?_; conv => whnf) | (refine And.intro ?_ trivial; conv => whnf) | ((with_reducible refine bk_true ?_); conv => whnf) | ((with_reducible refine bk_false ?_); conv => whnf) | (refine ex_get rfl ?_; conv => whnf) | (refine ex_cs rfl rfl ?_; conv => whnf) | ((with_reducible refine bk_nt ?_); conv => whnf) | ((with_reducible refine bk_nf ?_); conv => whnf))))
    refine bk_ncells s s' (fun _ => ?_) (fun h => absurd h2 h)
    ((conv => whnf) <;> (repeat (first | (refine And.intro (by first | omega | exact rfl | exact trivial | exact Nat.le_of_ble_eq_true rfl | (simp only [List.length_cons, List.length_nil]; omega)) ?_; conv => whnf) | (refine And.intro ?_ trivial; conv => whnf) | ((with_reducible refine bk_true ?_); conv => whnf) | ((with_reducible refine bk_false ?_); conv => whnf) | (refine ex_get rfl ?_; conv => whnf) | (refine ex_cs rfl rfl ?_; conv => whnf) | ((with_reducible refine bk_nt ?_); conv => whnf) | ((with_reducible refine bk_nf ?_); conv => whnf))))
    refine bk_is (neqF h3) ?_
    ((conv => whnf) <;> (repeat (first | (refine And.intro (by first | omega | exact rfl | exact trivial | exact Nat.le_of_ble_eq_true rfl | (simp only [List.length_cons, List.length_nil]; omega)) ?_; conv => whnf) | (refine And.intro ?_ trivial; conv => whnf) | ((with_reducible refine bk_true ?_); conv => whnf) | ((with_reducible refine bk_false ?_); conv => whnf) | (refine ex_get rfl ?_; conv => whnf) | (refine ex_cs rfl rfl ?_; conv => whnf) | ((with_reducible refine bk_nt ?_); conv => whnf) | ((with_reducible refine bk_nf ?_); conv => whnf))))
    refine bk_is (neqT h4) ?_
    ((conv => whnf) <;> (repeat (first | (refine And.intro (by first | omega | exact rfl | exact trivial | exact Nat.le_of_ble_eq_true rfl | (simp only [List.length_cons, List.length_nil]; omega)) ?_; conv => whnf) | (refine And.intro ?_ trivial; conv => whnf) | ((with_reducible refine bk_true ?_); conv => whnf) | ((with_reducible refine bk_false ?_); conv => whnf) | (refine ex_get rfl ?_; conv => whnf) | (refine ex_cs rfl rfl ?_; conv => whnf) | ((with_reducible refine bk_nt ?_); conv => whnf) | ((with_reducible refine bk_nf ?_); conv => whnf))))
    exact ret_pf rfl rfl rfl
  by_cases h5 : sub.length = sub'.length
  case neg =>
    have e : (Tr.mk k s sub lo hi).same (.mk k' s' sub' lo' hi') = false := by
      rw [Tr.same]
      cases hs : Tr.sameL sub sub' with
      | false => simp
      | true => exact absurd (sameL_len hs) h5
    rw [e]
    refine pf_intro rf44_eq rmixed rfl ?_
    ((conv => whnf) <;> (repeat (first | (refine And.intro (by first | omega | exact rfl | exact trivial | exact Nat.le_of_ble_eq_true rfl | (simp only [List.length_cons, List.length_nil]; omega)) ?_; conv => whnf) | (refine And.intro ?_ trivial; conv => whnf) | ((with_reducible refine bk_true ?_); conv => whnf) | ((with_reducible refine bk_false ?_); conv => whnf) | (refine ex_get rfl ?_; conv => whnf) | (refine ex_cs rfl rfl ?_; conv => whnf) | ((with_reducible refine bk_nt ?_); conv => whnf) | ((with_reducible refine bk_nf ?_); conv => whnf))))
    refine bk_is (neqF h1) ?_
    ((conv => whnf) <;> (repeat (first | (refine And.intro (by first | omega | exact rfl | exact trivial | exact Nat.le_of_ble_eq_true rfl | (simp only [List.length_cons, List.length_nil]; omega)) ?_; conv => whnf) | (refine And.intro ?_ trivial; conv => whnf) | ((with_reducible refine bk_true ?_); conv => whnf) | ((with_reducible refine bk_false ?_); conv => whnf) | (refine ex_get rfl ?_; conv => whnf) | (refine ex_cs rfl rfl ?_; conv => whnf) | ((with_reducible refine bk_nt ?_); conv => whnf) | ((with_reducible refine bk_nf ?_); conv => whnf))))
    refine bk_ncells s s' (fun _ => ?_) (fun h => absurd h2 h)
    ((conv => whnf) <;> (repeat (first | (refine And.intro (by first | omega | exact rfl | exact trivial | exact Nat.le_of_ble_eq_true rfl | (simp only [List.length_cons, List.length_nil]; omega)) ?_; conv => whnf) | (refine And.intro ?_ trivial; conv => whnf) | ((with_reducible refine bk_true ?_); conv => whnf) | ((with_reducible refine bk_false ?_); conv => whnf) | (refine ex_get rfl ?_; conv => whnf) | (refine ex_cs rfl rfl ?_; conv => whnf) | ((with_reducible refine bk_nt ?_); conv => whnf) | ((with_reducible refine bk_nf ?_); conv => whnf))))
    refine bk_is (neqF h3) ?_
    ((conv => whnf) <;> (repeat (first | (refine And.intro (by first | omega | exact rfl | exact trivial | exact Nat.le_of_ble_eq_true rfl | (simp only [List.length_cons, List.length_nil]; omega)) ?_; conv => whnf) | (refine And.intro ?_ trivial; conv => whnf) | ((with_reducible refine bk_true ?_); conv => whnf) | ((with_reducible refine bk_false ?_); conv => whnf) | (refine ex_get rfl ?_; conv => whnf) | (refine ex_cs rfl rfl ?_; conv => whnf) | ((with_reducible refine bk_nt ?_); conv => whnf) | ((with_reducible refine bk_nf ?_); conv => whnf))))
    refine bk_is (neqF h4) ?_
    ((conv => whnf) <;> (repeat (first | (refine And.intro (by first | omega | exact rfl | exact trivial | exact Nat.le_of_ble_eq_true rfl | (simp only [List.length_cons, List.length_nil]; omega)) ?_; conv => whnf) | (refine And.intro ?_ trivial; conv => whnf) | ((with_reducible refine bk_true ?_); conv => whnf) | ((with_reducible refine bk_false ?_); conv => whnf) | (refine ex_get rfl ?_; conv => whnf) | (refine ex_cs rfl rfl ?_; conv => whnf) | ((with_reducible refine bk_nt ?_); conv => whnf) | ((with_reducible refine bk_nf ?_); conv => whnf))))
    refine bk_is (neqT (by omega)) ?_
    ((conv => whnf) <;> (repeat (first | (refine And.intro (by first | omega | exact rfl | exact trivial | exact Nat.le_of_ble_eq_true rfl | (simp only [List.length_cons, List.length_nil]; omega)) ?_; conv => whnf) | (refine And.intro ?_ trivial; conv => whnf) | ((with_reducible refine bk_true ?_); conv => whnf) | ((with_reducible refine bk_false ?_); conv => whnf) | (refine ex_get rfl ?_; conv => whnf) | (refine ex_cs rfl rfl ?_; conv => whnf) | ((with_reducible refine bk_nt ?_); conv => whnf) | ((with_reducible refine bk_nf ?_); conv => whnf))))
    exact ret_pf rfl rfl rfl
  have e : (Tr.mk k s sub lo hi).same (.mk k' s' sub' lo' hi') = Tr.sameL sub sub' := by
    rw [Tr.same, decide_eq_true h1, decide_eq_true h2, decide_eq_true h3, decide_eq_true h4]; rfl
  rw [e]
  refine pf_intro rf44_eq rmixed rfl ?_
  ((conv => whnf) <;> (repeat (first | (refine And.intro (by first | omega | exact rfl | exact trivial | exact Nat.le_of_ble_eq_true rfl | (simp only [List.length_cons, List.length_nil]; omega)) ?_; conv => whnf) | (refine And.intro ?_ trivial; conv => whnf) | ((with_reducible refine bk_true ?_); conv => whnf) | ((with_reducible refine bk_false ?_); conv => whnf) | (refine ex_get rfl ?_; conv => whnf) | (refine ex_cs rfl rfl ?_; conv => whnf) | ((with_reducible refine bk_nt ?_); conv => whnf) | ((with_reducible refine bk_nf ?_); conv => whnf))))
  refine bk_is (neqF h1) ?_
  ((conv => whnf) <;> (repeat (first | (refine And.intro (by first | omega | exact rfl | exact trivial | exact Nat.le_of_ble_eq_true rfl | (simp only [List.length_cons, List.length_nil]; omega)) ?_; conv => whnf) | (refine And.intro ?_ trivial; conv => whnf) | ((with_reducible refine bk_true ?_); conv => whnf) | ((with_reducible refine bk_false ?_); conv => whnf) | (refine ex_get rfl ?_; conv => whnf) | (refine ex_cs rfl rfl ?_; conv => whnf) | ((with_reducible refine bk_nt ?_); conv => whnf) | ((with_reducible refine bk_nf ?_); conv => whnf))))
  refine bk_ncells s s' (fun _ => ?_) (fun h => absurd h2 h)
  ((conv => whnf) <;> (repeat (first | (refine And.intro (by first | omega | exact rfl | exact trivial | exact Nat.le_of_ble_eq_true rfl | (simp only [List.length_cons, List.length_nil]; omega)) ?_; conv => whnf) | (refine And.intro ?_ trivial; conv => whnf) | ((with_reducible refine bk_true ?_); conv => whnf) | ((with_reducible refine bk_false ?_); conv => whnf) | (refine ex_get rfl ?_; conv => whnf) | (refine ex_cs rfl rfl ?_; conv => whnf) | ((with_reducible refine bk_nt ?_); conv => whnf) | ((with_reducible refine bk_nf ?_); conv => whnf))))
  refine bk_is (neqF h3) ?_
  ((conv => whnf) <;> (repeat (first | (refine And.intro (by first | omega | exact rfl | exact trivial | exact Nat.le_of_ble_eq_true rfl | (simp only [List.length_cons, List.length_nil]; omega)) ?_; conv => whnf) | (refine And.intro ?_ trivial; conv => whnf) | ((with_reducible refine bk_true ?_); conv => whnf) | ((with_reducible refine bk_false ?_); conv => whnf) | (refine ex_get rfl ?_; conv => whnf) | (refine ex_cs rfl rfl ?_; conv => whnf) | ((with_reducible refine bk_nt ?_); conv => whnf) | ((with_reducible refine bk_nf ?_); conv => whnf))))
  refine bk_is (neqF h4) ?_
  ((conv => whnf) <;> (repeat (first | (refine And.intro (by first | omega | exact rfl | exact trivial | exact Nat.le_of_ble_eq_true rfl | (simp only [List.length_cons, List.length_nil]; omega)) ?_; conv => whnf) | (refine And.intro ?_ trivial; conv => whnf) | ((with_reducible refine bk_true ?_); conv => whnf) | ((with_reducible refine bk_false ?_); conv => whnf) | (refine ex_get rfl ?_; conv => whnf) | (refine ex_cs rfl rfl ?_; conv => whnf) | ((with_reducible refine bk_nt ?_); conv => whnf) | ((with_reducible refine bk_nf ?_); conv => whnf))))
  refine bk_is (neqF (by omega)) ?_
  ((conv => whnf) <;> (repeat (first | (refine And.intro (by first | omega | exact rfl | exact trivial | exact Nat.le_of_ble_eq_true rfl | (simp only [List.length_cons, List.length_nil]; omega)) ?_; conv => whnf) | (refine And.intro ?_ trivial; conv => whnf) | ((with_reducible refine bk_true ?_); conv => whnf) | ((with_reducible refine bk_false ?_); conv => whnf) | (refine ex_get rfl ?_; conv => whnf) | (refine ex_cs rfl rfl ?_; conv => whnf) | ((with_reducible refine bk_nt ?_); conv => whnf) | ((with_reducible refine bk_nf ?_); conv => whnf))))
  refine ⟨[], Nat, fun i => ⟨[(2, .ptr 0 8 0 0), (3, .ptr 1 8 0 0), (5, .p (i64 i))], [Tr.blk k s sub lo hi, Tr.blk k' s' sub' lo' hi']⟩,
    fun i => i ≤ sub.length ∧ ∀ (j : Nat) x y, j < i → sub[j]? = some x → sub'[j]? = some y → x.same y = true, fun i => sub.length - i, ⟨0, ⟨Nat.zero_le _, fun j x y h => absurd h (by omega)⟩, ?_⟩, fun i hx => ?_⟩
  · (refine ⟨⟨rfl, rfl⟩, ?_, ?_⟩ <;> (repeat' (first | exact TLe.nil | exact HLe.nil _ | refine TLe.cons ?_ ?_ | refine HLe.cons ?_ ?_ | exact KLe.ptr rfl | exact KLe.sl rfl (.inl rfl) | exact KLe.csl rfl | refine KLe.pe ?_ | refine BLe.pe ?_ | refine BLe.mx ?_ | exact KLeL.nil | refine KLe.fn ?_ ?_ | refine KLeL.cons ?_ ?_ | exact KLe.und _ | exact BLe.dead _)) <;> (try with_reducible rfl))
    all_goals rfl
  · obtain ⟨hile, hall⟩ := hx
    ((conv => whnf) <;> (repeat (first | (refine And.intro (by first | omega | exact rfl | exact trivial | exact Nat.le_of_ble_eq_true rfl | (simp only [List.length_cons, List.length_nil]; omega)) ?_; conv => whnf) | (refine And.intro ?_ trivial; conv => whnf) | ((with_reducible refine bk_true ?_); conv => whnf) | ((with_reducible refine bk_false ?_); conv => whnf) | (refine ex_get rfl ?_; conv => whnf) | (refine ex_cs rfl rfl ?_; conv => whnf) | ((with_reducible refine bk_nt ?_); conv => whnf) | ((with_reducible refine bk_nf ?_); conv => whnf))))
    rw [hl]
    (refine bk_split (fun hb => ?_) (fun hb => ?_))
    · have hlt : i < sub.length := by have := lss_t hb; omega
      obtain ⟨x, hx⟩ : ∃ x, sub[i]? = some x := ⟨_, List.getElem?_eq_getElem hlt⟩
      obtain ⟨y, hy⟩ : ∃ y, sub'[i]? = some y := ⟨_, List.getElem?_eq_getElem (by omega)⟩
      ((conv => whnf) <;> (repeat (first | (refine And.intro (by first | omega | exact rfl | exact trivial | exact Nat.le_of_ble_eq_true rfl | (simp only [List.length_cons, List.length_nil]; omega)) ?_; conv => whnf) | (refine And.intro ?_ trivial; conv => whnf) | ((with_reducible refine bk_true ?_); conv => whnf) | ((with_reducible refine bk_false ?_); conv => whnf) | (refine ex_get rfl ?_; conv => whnf) | (refine ex_cs rfl rfl ?_; conv => whnf) | ((with_reducible refine bk_nt ?_); conv => whnf) | ((with_reducible refine bk_nf ?_); conv => whnf))))
      refine ⟨_, by rw [Int.toNat_natCast]; exact Tr.rows_get hx, ?_⟩
      ((conv => whnf) <;> (repeat (first | (refine And.intro (by first | omega | exact rfl | exact trivial | exact Nat.le_of_ble_eq_true rfl | (simp only [List.length_cons, List.length_nil]; omega)) ?_; conv => whnf) | (refine And.intro ?_ trivial; conv => whnf) | ((with_reducible refine bk_true ?_); conv => whnf) | ((with_reducible refine bk_false ?_); conv => whnf) | (refine ex_get rfl ?_; conv => whnf) | (refine ex_cs rfl rfl ?_; conv => whnf) | ((with_reducible refine bk_nt ?_); conv => whnf) | ((with_reducible refine bk_nf ?_); conv => whnf))))
      refine ⟨x.cells, x.take8, x.len8, ?_⟩
      ((conv => whnf) <;> (repeat (first | (refine And.intro (by first | omega | exact rfl | exact trivial | exact Nat.le_of_ble_eq_true rfl | (simp only [List.length_cons, List.length_nil]; omega)) ?_; conv => whnf) | (refine And.intro ?_ trivial; conv => whnf) | ((with_reducible refine bk_true ?_); conv => whnf) | ((with_reducible refine bk_false ?_); conv => whnf) | (refine ex_get rfl ?_; conv => whnf) | (refine ex_cs rfl rfl ?_; conv => whnf) | ((with_reducible refine bk_nt ?_); conv => whnf) | ((with_reducible refine bk_nf ?_); conv => whnf))))
      refine ⟨_, by rw [Int.toNat_natCast]; exact Tr.rows_get hy, ?_⟩
      ((conv => whnf) <;> (repeat (first | (refine And.intro (by first | omega | exact rfl | exact trivial | exact Nat.le_of_ble_eq_true rfl | (simp only [List.length_cons, List.length_nil]; omega)) ?_; conv => whnf) | (refine And.intro ?_ trivial; conv => whnf) | ((with_reducible refine bk_true ?_); conv => whnf) | ((with_reducible refine bk_false ?_); conv => whnf) | (refine ex_get rfl ?_; conv => whnf) | (refine ex_cs rfl rfl ?_; conv => whnf) | ((with_reducible refine bk_nt ?_); conv => whnf) | ((with_reducible refine bk_nf ?_); conv => whnf))))
      refine ⟨y.cells, y.take8, y.len8, ?_⟩
      ((conv => whnf) <;> (repeat (first | (refine And.intro (by first | omega | exact rfl | exact trivial | exact Nat.le_of_ble_eq_true rfl | (simp only [List.length_cons, List.length_nil]; omega)) ?_; conv => whnf) | (refine And.intro ?_ trivial; conv => whnf) | ((with_reducible refine bk_true ?_); conv => whnf) | ((with_reducible refine bk_false ?_); conv => whnf) | (refine ex_get rfl ?_; conv => whnf) | (refine ex_cs rfl rfl ?_; conv => whnf) | ((with_reducible refine bk_nt ?_); conv => whnf) | ((with_reducible refine bk_nf ?_); conv => whnf))))
      refine vcall_pf (ih x (mem_get hx) y (hA.sub x (mem_get hx)) (hB.sub y (mem_get hy))) rfl rfl ?_
      cases hs : x.same y with
      | false =>
        ((conv => whnf) <;> (repeat (first | (refine And.intro (by first | omega | exact rfl | exact trivial | exact Nat.le_of_ble_eq_true rfl | (simp only [List.length_cons, List.length_nil]; omega)) ?_; conv => whnf) | (refine And.intro ?_ trivial; conv => whnf) | ((with_reducible refine bk_true ?_); conv => whnf) | ((with_reducible refine bk_false ?_); conv => whnf) | (refine ex_get rfl ?_; conv => whnf) | (refine ex_cs rfl rfl ?_; conv => whnf) | ((with_reducible refine bk_nt ?_); conv => whnf) | ((with_reducible refine bk_nf ?_); conv => whnf))))
        refine ret_pf rfl rfl (congrArg PV.b ?_)
        cases hL : Tr.sameL sub sub' with
        | false => rfl
        | true => rw [(sameL_iff h5).1 hL i x y hx hy] at hs; cases hs
      | true =>
        ((conv => whnf) <;> (repeat (first | (refine And.intro (by first | omega | exact rfl | exact trivial | exact Nat.le_of_ble_eq_true rfl | (simp only [List.length_cons, List.length_nil]; omega)) ?_; conv => whnf) | (refine And.intro ?_ trivial; conv => whnf) | ((with_reducible refine bk_true ?_); conv => whnf) | ((with_reducible refine bk_false ?_); conv => whnf) | (refine ex_get rfl ?_; conv => whnf) | (refine ex_cs rfl rfl ?_; conv => whnf) | ((with_reducible refine bk_nt ?_); conv => whnf) | ((with_reducible refine bk_nf ?_); conv => whnf))))
        refine ⟨i + 1, ⟨hlt, fun j a b hj ha hb' => ?_⟩, (show sub.length - (i + 1) < sub.length - i by omega), ?_⟩
        · rcases Nat.lt_or_ge j i with h | h
          · exact hall j a b h ha hb'
          · have : j = i := by omega
            subst this
            rw [hx] at ha
            rw [hy] at hb'
            cases ha
            cases hb'
            exact hs
        · (refine ⟨⟨rfl, rfl⟩, ?_, ?_⟩ <;> (repeat' (first | exact TLe.nil | exact HLe.nil _ | refine TLe.cons ?_ ?_ | refine HLe.cons ?_ ?_ | exact KLe.ptr rfl | exact KLe.sl rfl (.inl rfl) | exact KLe.csl rfl | refine KLe.pe ?_ | refine BLe.pe ?_ | refine BLe.mx ?_ | exact KLeL.nil | refine KLe.fn ?_ ?_ | refine KLeL.cons ?_ ?_ | exact KLe.und _ | exact BLe.dead _)) <;> (try with_reducible rfl))
          all_goals first | ((refine congrArg (PV.int IntKind.i64) ?_) <;> (first | rfl | omega | (rw [add64 (by omega) (by omega)]; omega) | (rw [sub64 (by omega) (by omega)]; omega))) | skip
    · have hie : i = sub.length := by have := lss_f hb; omega
      ((conv => whnf) <;> (repeat (first | (refine And.intro (by first | omega | exact rfl | exact trivial | exact Nat.le_of_ble_eq_true rfl | (simp only [List.length_cons, List.length_nil]; omega)) ?_; conv => whnf) | (refine And.intro ?_ trivial; conv => whnf) | ((with_reducible refine bk_true ?_); conv => whnf) | ((with_reducible refine bk_false ?_); conv => whnf) | (refine ex_get rfl ?_; conv => whnf) | (refine ex_cs rfl rfl ?_; conv => whnf) | ((with_reducible refine bk_nt ?_); conv => whnf) | ((with_reducible refine bk_nf ?_); conv => whnf))))
      refine ret_pf rfl rfl (congrArg PV.b ?_)
      exact ((sameL_iff h5).2 fun j x y hx hy => hall j x y (by have := (List.getElem?_eq_some_iff.1 hx).1; omega) hx hy).symm

theorem made45_fn (k : Int) (N : Tr) (x : List PV) (hx : PLe (.agg x) N.pv) (hx8 : ∃ a b c d e f g h, x = [a, b, c, d, e, f, g, h]) (l : List Tr) (hn : l.length < 2 ^ 62) :
    PF Try.prog 45 [i64 k, .agg x, .isl 8 (Tr.rowsL l) none] (severalT k N l).pv := by
  obtain ⟨a, b, c, d, e, f, g, h, rfl⟩ := hx8
  match l, hn with
  | [], _ =>
    refine pf_intro rf45_eq rmixed rfl ?_
    ((conv => whnf) <;> (repeat (first | (refine And.intro (by first | omega | exact rfl | exact trivial | exact Nat.le_of_ble_eq_true rfl | (simp only [List.length_cons, List.length_nil]; omega)) ?_; conv => whnf) | (refine And.intro ?_ trivial; conv => whnf) | ((with_reducible refine bk_true ?_); conv => whnf) | ((with_reducible refine bk_false ?_); conv => whnf) | (refine ex_get rfl ?_; conv => whnf) | (refine ex_cs rfl rfl ?_; conv => whnf) | ((with_reducible refine bk_nt ?_); conv => whnf) | ((with_reducible refine bk_nf ?_); conv => whnf))))
    refine bk_is (eqlT rfl) ?_
    ((conv => whnf) <;> (repeat (first | (refine And.intro (by first | omega | exact rfl | exact trivial | exact Nat.le_of_ble_eq_true rfl | (simp only [List.length_cons, List.length_nil]; omega)) ?_; conv => whnf) | (refine And.intro ?_ trivial; conv => whnf) | ((with_reducible refine bk_true ?_); conv => whnf) | ((with_reducible refine bk_false ?_); conv => whnf) | (refine ex_get rfl ?_; conv => whnf) | (refine ex_cs rfl rfl ?_; conv => whnf) | ((with_reducible refine bk_nt ?_); conv => whnf) | ((with_reducible refine bk_nf ?_); conv => whnf))))
    exact ret_ple rfl rfl hx
  | [t], _ =>
    have hl1 : (Tr.rowsL [t]).length = 1 := rfl
    have hR : severalT k N [t] = t := rfl
    rw [hR]
    obtain ⟨tk, ts, tsub, tlo, thi⟩ := t
    refine pf_intro rf45_eq rmixed rfl ?_
    ((conv => whnf) <;> (repeat (first | (refine And.intro (by first | omega | exact rfl | exact trivial | exact Nat.le_of_ble_eq_true rfl | (simp only [List.length_cons, List.length_nil]; omega)) ?_; conv => whnf) | (refine And.intro ?_ trivial; conv => whnf) | ((with_reducible refine bk_true ?_); conv => whnf) | ((with_reducible refine bk_false ?_); conv => whnf) | (refine ex_get rfl ?_; conv => whnf) | (refine ex_cs rfl rfl ?_; conv => whnf) | ((with_reducible refine bk_nt ?_); conv => whnf) | ((with_reducible refine bk_nf ?_); conv => whnf))))
    ((repeat (first | ((with_reducible refine bk_is (eqlT ?_) ?_); (focus omega); ((conv => whnf) <;> (repeat (first | (refine And.intro (by first | omega | exact rfl | exact trivial | exact Nat.le_of_ble_eq_true rfl | (simp only [List.length_cons, List.length_nil]; omega)) ?_; conv => whnf) | (refine And.intro ?_ trivial; conv => whnf) | ((with_reducible refine bk_true ?_); conv => whnf) | ((with_reducible refine bk_false ?_); conv => whnf) | (refine ex_get rfl ?_; conv => whnf) | (refine ex_cs rfl rfl ?_; conv => whnf) | ((with_reducible refine bk_nt ?_); conv => whnf) | ((with_reducible refine bk_nf ?_); conv => whnf))))) | ((with_reducible refine bk_is (eqlF ?_) ?_); (focus omega); ((conv => whnf) <;> (repeat (first | (refine And.intro (by first | omega | exact rfl | exact trivial | exact Nat.le_of_ble_eq_true rfl | (simp only [List.length_cons, List.length_nil]; omega)) ?_; conv => whnf) | (refine And.intro ?_ trivial; conv => whnf) | ((with_reducible refine bk_true ?_); conv => whnf) | ((with_reducible refine bk_false ?_); conv => whnf) | (refine ex_get rfl ?_; conv => whnf) | (refine ex_cs rfl rfl ?_; conv => whnf) | ((with_reducible refine bk_nt ?_); conv => whnf) | ((with_reducible refine bk_nf ?_); conv => whnf))))) | ((with_reducible refine bk_is (neqT ?_) ?_); (focus omega); ((conv => whnf) <;> (repeat (first | (refine And.intro (by first | omega | exact rfl | exact trivial | exact Nat.le_of_ble_eq_true rfl | (simp only [List.length_cons, List.length_nil]; omega)) ?_; conv => whnf) | (refine And.intro ?_ trivial; conv => whnf) | ((with_reducible refine bk_true ?_); conv => whnf) | ((with_reducible refine bk_false ?_); conv => whnf) | (refine ex_get rfl ?_; conv => whnf) | (refine ex_cs rfl rfl ?_; conv => whnf) | ((with_reducible refine bk_nt ?_); conv => whnf) | ((with_reducible refine bk_nf ?_); conv => whnf))))) | ((with_reducible refine bk_is (neqF ?_) ?_); (focus omega); ((conv => whnf) <;> (repeat (first | (refine And.intro (by first | omega | exact rfl | exact trivial | exact Nat.le_of_ble_eq_true rfl | (simp only [List.length_cons, List.length_nil]; omega)) ?_; conv => whnf) | (refine And.intro ?_ trivial; conv => whnf) | ((with_reducible refine bk_true ?_); conv => whnf) | ((with_reducible refine bk_false ?_); conv => whnf) | (refine ex_get rfl ?_; conv => whnf) | (refine ex_cs rfl rfl ?_; conv => whnf) | ((with_reducible refine bk_nt ?_); conv => whnf) | ((with_reducible refine bk_nf ?_); conv => whnf))))) | ((with_reducible refine bk_is (lssT ?_) ?_); (focus omega); ((conv => whnf) <;> (repeat (first | (refine And.intro (by first | omega | exact rfl | exact trivial | exact Nat.le_of_ble_eq_true rfl | (simp only [List.length_cons, List.length_nil]; omega)) ?_; conv => whnf) | (refine And.intro ?_ trivial; conv => whnf) | ((with_reducible refine bk_true ?_); conv => whnf) | ((with_reducible refine bk_false ?_); conv => whnf) | (refine ex_get rfl ?_; conv => whnf) | (refine ex_cs rfl rfl ?_; conv => whnf) | ((with_reducible refine bk_nt ?_); conv => whnf) | ((with_reducible refine bk_nf ?_); conv => whnf))))) | ((with_reducible refine bk_is (lssF ?_) ?_); (focus omega); ((conv => whnf) <;> (repeat (first | (refine And.intro (by first | omega | exact rfl | exact trivial | exact Nat.le_of_ble_eq_true rfl | (simp only [List.length_cons, List.length_nil]; omega)) ?_; conv => whnf) | (refine And.intro ?_ trivial; conv => whnf) | ((with_reducible refine bk_true ?_); conv => whnf) | ((with_reducible refine bk_false ?_); conv => whnf) | (refine ex_get rfl ?_; conv => whnf) | (refine ex_cs rfl rfl ?_; conv => whnf) | ((with_reducible refine bk_nt ?_); conv => whnf) | ((with_reducible refine bk_nf ?_); conv => whnf))))) | ((with_reducible refine bk_is (leqT ?_) ?_); (focus omega); ((conv => whnf) <;> (repeat (first | (refine And.intro (by first | omega | exact rfl | exact trivial | exact Nat.le_of_ble_eq_true rfl | (simp only [List.length_cons, List.length_nil]; omega)) ?_; conv => whnf) | (refine And.intro ?_ trivial; conv => whnf) | ((with_reducible refine bk_true ?_); conv => whnf) | ((with_reducible refine bk_false ?_); conv => whnf) | (refine ex_get rfl ?_; conv => whnf) | (refine ex_cs rfl rfl ?_; conv => whnf) | ((with_reducible refine bk_nt ?_); conv => whnf) | ((with_reducible refine bk_nf ?_); conv => whnf))))) | ((with_reducible refine bk_is (leqF ?_) ?_); (focus omega); ((conv => whnf) <;> (repeat (first | (refine And.intro (by first | omega | exact rfl | exact trivial | exact Nat.le_of_ble_eq_true rfl | (simp only [List.length_cons, List.length_nil]; omega)) ?_; conv => whnf) | (refine And.intro ?_ trivial; conv => whnf) | ((with_reducible refine bk_true ?_); conv => whnf) | ((with_reducible refine bk_false ?_); conv => whnf) | (refine ex_get rfl ?_; conv => whnf) | (refine ex_cs rfl rfl ?_; conv => whnf) | ((with_reducible refine bk_nt ?_); conv => whnf) | ((with_reducible refine bk_nf ?_); conv => whnf))))) | ((with_reducible refine bk_is (gtrT ?_) ?_); (focus omega); ((conv => whnf) <;> (repeat (first | (refine And.intro (by first | omega | exact rfl | exact trivial | exact Nat.le_of_ble_eq_true rfl | (simp only [List.length_cons, List.length_nil]; omega)) ?_; conv => whnf) | (refine And.intro ?_ trivial; conv => whnf) | ((with_reducible refine bk_true ?_); conv => whnf) | ((with_reducible refine bk_false ?_); conv => whnf) | (refine ex_get rfl ?_; conv => whnf) | (refine ex_cs rfl rfl ?_; conv => whnf) | ((with_reducible refine bk_nt ?_); conv => whnf) | ((with_reducible refine bk_nf ?_); conv => whnf))))) | ((with_reducible refine bk_is (gtrF ?_) ?_); (focus omega); ((conv => whnf) <;> (repeat (first | (refine And.intro (by first | omega | exact rfl | exact trivial | exact Nat.le_of_ble_eq_true rfl | (simp only [List.length_cons, List.length_nil]; omega)) ?_; conv => whnf) | (refine And.intro ?_ trivial; conv => whnf) | ((with_reducible refine bk_true ?_); conv => whnf) | ((with_reducible refine bk_false ?_); conv => whnf) | (refine ex_get rfl ?_; conv => whnf) | (refine ex_cs rfl rfl ?_; conv => whnf) | ((with_reducible refine bk_nt ?_); conv => whnf) | ((with_reducible refine bk_nf ?_); conv => whnf))))) | ((with_reducible refine bk_is (geqT ?_) ?_); (focus omega); ((conv => whnf) <;> (repeat (first | (refine And.intro (by first | omega | exact rfl | exact trivial | exact Nat.le_of_ble_eq_true rfl | (simp only [List.length_cons, List.length_nil]; omega)) ?_; conv => whnf) | (refine And.intro ?_ trivial; conv => whnf) | ((with_reducible refine bk_true ?_); conv => whnf) | ((with_reducible refine bk_false ?_); conv => whnf) | (refine ex_get rfl ?_; conv => whnf) | (refine ex_cs rfl rfl ?_; conv => whnf) | ((with_reducible refine bk_nt ?_); conv => whnf) | ((with_reducible refine bk_nf ?_); conv => whnf))))) | ((with_reducible refine bk_is (geqF ?_) ?_); (focus omega); ((conv => whnf) <;> (repeat (first | (refine And.intro (by first | omega | exact rfl | exact trivial | exact Nat.le_of_ble_eq_true rfl | (simp only [List.length_cons, List.length_nil]; omega)) ?_; conv => whnf) | (refine And.intro ?_ trivial; conv => whnf) | ((with_reducible refine bk_true ?_); conv => whnf) | ((with_reducible refine bk_false ?_); conv => whnf) | (refine ex_get rfl ?_; conv => whnf) | (refine ex_cs rfl rfl ?_; conv => whnf) | ((with_reducible refine bk_nt ?_); conv => whnf) | ((with_reducible refine bk_nf ?_); conv => whnf))))))))
    exact ret_pf rfl rfl rfl
  | t :: u :: r, hn =>
    have hl1 : (Tr.rowsL (t :: u :: r)).length = r.length + 2 := by rw [Tr.rows_len]; rfl
    refine pf_intro rf45_eq rmixed rfl ?_
    ((conv => whnf) <;> (repeat (first | (refine And.intro (by first | omega | exact rfl | exact trivial | exact Nat.le_of_ble_eq_true rfl | (simp only [List.length_cons, List.length_nil]; omega)) ?_; conv => whnf) | (refine And.intro ?_ trivial; conv => whnf) | ((with_reducible refine bk_true ?_); conv => whnf) | ((with_reducible refine bk_false ?_); conv => whnf) | (refine ex_get rfl ?_; conv => whnf) | (refine ex_cs rfl rfl ?_; conv => whnf) | ((with_reducible refine bk_nt ?_); conv => whnf) | ((with_reducible refine bk_nf ?_); conv => whnf))))
    ((repeat (first | ((with_reducible refine bk_is (eqlT ?_) ?_); (focus omega); ((conv => whnf) <;> (repeat (first | (refine And.intro (by first | omega | exact rfl | exact trivial | exact Nat.le_of_ble_eq_true rfl | (simp only [List.length_cons, List.length_nil]; omega)) ?_; conv => whnf) | (refine And.intro ?_ trivial; conv => whnf) | ((with_reducible refine bk_true ?_); conv => whnf) | ((with_reducible refine bk_false ?_); conv => whnf) | (refine ex_get rfl ?_; conv => whnf) | (refine ex_cs rfl rfl ?_; conv => whnf) | ((with_reducible refine bk_nt ?_); conv => whnf) | ((with_reducible refine bk_nf ?_); conv => whnf))))) | ((with_reducible refine bk_is (eqlF ?_) ?_); (focus omega); ((conv => whnf) <;> (repeat (first | (refine And.intro (by first | omega | exact rfl | exact trivial | exact Nat.le_of_ble_eq_true rfl | (simp only [List.length_cons, List.length_nil]; omega)) ?_; conv => whnf) | (refine And.intro ?_ trivial; conv => whnf) | ((with_reducible refine bk_true ?_); conv => whnf) | ((with_reducible refine bk_false ?_); conv => whnf) | (refine ex_get rfl ?_; conv => whnf) | (refine ex_cs rfl rfl ?_; conv => whnf) | ((with_reducible refine bk_nt ?_); conv => whnf) | ((with_reducible refine bk_nf ?_); conv => whnf))))) | ((with_reducible refine bk_is (neqT ?_) ?_); (focus omega); ((conv => whnf) <;> (repeat (first | (refine And.intro (by first | omega | exact rfl | exact trivial | exact Nat.le_of_ble_eq_true rfl | (simp only [List.length_cons, List.length_nil]; omega)) ?_; conv => whnf) | (refine And.intro ?_ trivial; conv => whnf) | ((with_reducible refine bk_true ?_); conv => whnf) | ((with_reducible refine bk_false ?_); conv => whnf) | (refine ex_get rfl ?_; conv => whnf) | (refine ex_cs rfl rfl ?_; conv => whnf) | ((with_reducible refine bk_nt ?_); conv => whnf) | ((with_reducible refine bk_nf ?_); conv => whnf))))) | ((with_reducible refine bk_is (neqF ?_) ?_); (focus omega); ((conv => whnf) <;> (repeat (first | (refine And.intro (by first | omega | exact rfl | exact trivial | exact Nat.le_of_ble_eq_true rfl | (simp only [List.length_cons, List.length_nil]; omega)) ?_; conv => whnf) | (refine And.intro ?_ trivial; conv => whnf) | ((with_reducible refine bk_true ?_); conv => whnf) | ((with_reducible refine bk_false ?_); conv => whnf) | (refine ex_get rfl ?_; conv => whnf) | (refine ex_cs rfl rfl ?_; conv => whnf) | ((with_reducible refine bk_nt ?_); conv => whnf) | ((with_reducible refine bk_nf ?_); conv => whnf))))) | ((with_reducible refine bk_is (lssT ?_) ?_); (focus omega); ((conv => whnf) <;> (repeat (first | (refine And.intro (by first | omega | exact rfl | exact trivial | exact Nat.le_of_ble_eq_true rfl | (simp only [List.length_cons, List.length_nil]; omega)) ?_; conv => whnf) | (refine And.intro ?_ trivial; conv => whnf) | ((with_reducible refine bk_true ?_); conv => whnf) | ((with_reducible refine bk_false ?_); conv => whnf) | (refine ex_get rfl ?_; conv => whnf) | (refine ex_cs rfl rfl ?_; conv => whnf) | ((with_reducible refine bk_nt ?_); conv => whnf) | ((with_reducible refine bk_nf ?_); conv => whnf))))) | ((with_reducible refine bk_is (lssF ?_) ?_); (focus omega); ((conv => whnf) <;> (repeat (first | (refine And.intro (by first | omega | exact rfl | exact trivial | exact Nat.le_of_ble_eq_true rfl | (simp only [List.length_cons, List.length_nil]; omega)) ?_; conv => whnf) | (refine And.intro ?_ trivial; conv => whnf) | ((with_reducible refine bk_true ?_); conv => whnf) | ((with_reducible refine bk_false ?_); conv => whnf) | (refine ex_get rfl ?_; conv => whnf) | (refine ex_cs rfl rfl ?_; conv => whnf) | ((with_reducible refine bk_nt ?_); conv => whnf) | ((with_reducible refine bk_nf ?_); conv => whnf))))) | ((with_reducible refine bk_is (leqT ?_) ?_); (focus omega); ((conv => whnf) <;> (repeat (first | (refine And.intro (by first | omega | exact rfl | exact trivial | exact Nat.le_of_ble_eq_true rfl | (simp only [List.length_cons, List.length_nil]; omega)) ?_; conv => whnf) | (refine And.intro ?_ trivial; conv => whnf) | ((with_reducible refine bk_true ?_); conv => whnf) | ((with_reducible refine bk_false ?_); conv => whnf) | (refine ex_get rfl ?_; conv => whnf) | (refine ex_cs rfl rfl ?_; conv => whnf) | ((with_reducible refine bk_nt ?_); conv => whnf) | ((with_reducible refine bk_nf ?_); conv => whnf))))) | ((with_reducible refine bk_is (leqF ?_) ?_); (focus omega); ((conv => whnf) <;> (repeat (first | (refine And.intro (by first | omega | exact rfl | exact trivial | exact Nat.le_of_ble_eq_true rfl | (simp only [List.length_cons, List.length_nil]; omega)) ?_; conv => whnf) | (refine And.intro ?_ trivial; conv => whnf) | ((with_reducible refine bk_true ?_); conv => whnf) | ((with_reducible refine bk_false ?_); conv => whnf) | (refine ex_get rfl ?_; conv => whnf) | (refine ex_cs rfl rfl ?_; conv => whnf) | ((with_reducible refine bk_nt ?_); conv => whnf) | ((with_reducible refine bk_nf ?_); conv => whnf))))) | ((with_reducible refine bk_is (gtrT ?_) ?_); (focus omega); ((conv => whnf) <;> (repeat (first | (refine And.intro (by first | omega | exact rfl | exact trivial | exact Nat.le_of_ble_eq_true rfl | (simp only [List.length_cons, List.length_nil]; omega)) ?_; conv => whnf) | (refine And.intro ?_ trivial; conv => whnf) | ((with_reducible refine bk_true ?_); conv => whnf) | ((with_reducible refine bk_false ?_); conv => whnf) | (refine ex_get rfl ?_; conv => whnf) | (refine ex_cs rfl rfl ?_; conv => whnf) | ((with_reducible refine bk_nt ?_); conv => whnf) | ((with_reducible refine bk_nf ?_); conv => whnf))))) | ((with_reducible refine bk_is (gtrF ?_) ?_); (focus omega); ((conv => whnf) <;> (repeat (first | (refine And.intro (by first | omega | exact rfl | exact trivial | exact Nat.le_of_ble_eq_true rfl | (simp only [List.length_cons, List.length_nil]; omega)) ?_; conv => whnf) | (refine And.intro ?_ trivial; conv => whnf) | ((with_reducible refine bk_true ?_); conv => whnf) | ((with_reducible refine bk_false ?_); conv => whnf) | (refine ex_get rfl ?_; conv => whnf) | (refine ex_cs rfl rfl ?_; conv => whnf) | ((with_reducible refine bk_nt ?_); conv => whnf) | ((with_reducible refine bk_nf ?_); conv => whnf))))) | ((with_reducible refine bk_is (geqT ?_) ?_); (focus omega); ((conv => whnf) <;> (repeat (first | (refine And.intro (by first | omega | exact rfl | exact trivial | exact Nat.le_of_ble_eq_true rfl | (simp only [List.length_cons, List.length_nil]; omega)) ?_; conv => whnf) | (refine And.intro ?_ trivial; conv => whnf) | ((with_reducible refine bk_true ?_); conv => whnf) | ((with_reducible refine bk_false ?_); conv => whnf) | (refine ex_get rfl ?_; conv => whnf) | (refine ex_cs rfl rfl ?_; conv => whnf) | ((with_reducible refine bk_nt ?_); conv => whnf) | ((with_reducible refine bk_nf ?_); conv => whnf))))) | ((with_reducible refine bk_is (geqF ?_) ?_); (focus omega); ((conv => whnf) <;> (repeat (first | (refine And.intro (by first | omega | exact rfl | exact trivial | exact Nat.le_of_ble_eq_true rfl | (simp only [List.length_cons, List.length_nil]; omega)) ?_; conv => whnf) | (refine And.intro ?_ trivial; conv => whnf) | ((with_reducible refine bk_true ?_); conv => whnf) | ((with_reducible refine bk_false ?_); conv => whnf) | (refine ex_get rfl ?_; conv => whnf) | (refine ex_cs rfl rfl ?_; conv => whnf) | ((with_reducible refine bk_nt ?_); conv => whnf) | ((with_reducible refine bk_nf ?_); conv => whnf))))))))
    exact ret_pf rfl rfl rfl

/-! ### Texts -/

theorem setOf_has {c d : Nat} (hc : c < 256) (hd : d < 256) : (setOf c).has d = decide (d = c) := by
  unfold setOf Set4.has
  have hw : ∀ q w i, (Set4.nil.setWord q w).word i = if (q = i ∨ 3 ≤ q ∧ 3 ≤ i) then w else 0 := fun q w i => by
    match q, i with
    | 0, 0 => rfl
    | 0, 1 => rfl
    | 0, 2 => rfl
    | 0, _ + 3 => rw [if_neg (by omega)]; rfl
    | 1, 0 => rfl
    | 1, 1 => rfl
    | 1, 2 => rfl
    | 1, _ + 3 => rw [if_neg (by omega)]; rfl
    | 2, 0 => rfl
    | 2, 1 => rfl
    | 2, 2 => rfl
    | 2, _ + 3 => rw [if_neg (by omega)]; rfl
    | _ + 3, 0 => rw [if_neg (by omega)]; rfl
    | _ + 3, 1 => rw [if_neg (by omega)]; rfl
    | _ + 3, 2 => rw [if_neg (by omega)]; rfl
    | _ + 3, _ + 3 => rw [if_pos (by omega)]; rfl
  rw [hw]
  have h1 := Nat.mod_lt c (show 64 > 0 by decide)
  have h2 := Nat.mod_lt d (show 64 > 0 by decide)
  by_cases hq : c / 64 = d / 64
  · rw [if_pos (.inl hq), BitVec.getLsbD_shiftLeft, BitVec.getLsbD_one]
    rw [Bool.eq_iff_iff]
    simp only [Bool.and_eq_true, Bool.not_eq_true', decide_eq_true_iff, decide_eq_false_iff_not]
    omega
  · rw [if_neg (by omega), decide_eq_false (by omega)]
    simp

theorem text_ends (w : List UInt8) : ∀ (s : List UInt8) (f : Pl) (j : Nat), comp ((leafsT s).map (Tr.ends w)) f j =
    (decide (s.length ≤ j) && (f (j - s.length) && decide ((w.drop (j - s.length)).take s.length = s)))
  | [], f, j => by
    show f j = (decide (0 ≤ j) && (f (j - 0) && decide (List.take 0 _ = [])))
    rw [decide_eq_true (Nat.zero_le j), Nat.sub_zero, List.take_zero]
    simp
  | c :: r, f, j => by
    have e : comp ((leafsT (c :: r)).map (Tr.ends w)) f = comp ((leafsT r).map (Tr.ends w)) (oneE w (setOf c.toNat) f) := by
      show comp (((byteT (setOf c.toNat)).ends w) :: (leafsT r).map (Tr.ends w)) f = _
      rw [show (byteT (setOf c.toNat)).ends w = oneE w (setOf c.toNat) from Tr.ends1 _ _ _ _ _]
      rfl
    rw [e, text_ends w r]
    have hlen : (c :: r).length = r.length + 1 := rfl
    rw [hlen]
    by_cases h1 : r.length + 1 ≤ j
    · obtain ⟨m, hm⟩ : ∃ m, j - r.length = m + 1 := ⟨j - r.length - 1, by omega⟩
      rw [decide_eq_true (by omega : r.length ≤ j), decide_eq_true h1, hm, show j - (r.length + 1) = m by omega, Bool.true_and, Bool.true_and]
      show ((f m && (match w[m]? with | some d => (setOf c.toNat).has d.toNat | none => false)) && decide ((w.drop (m + 1)).take r.length = r)) = _
      rw [Bool.and_assoc]
      congr 1
      cases hd : w[m]? with
      | none =>
        have hge : w.length ≤ m := List.getElem?_eq_none_iff.1 hd
        exact (decide_eq_false fun h => by
          rw [List.drop_of_length_le hge, List.take_nil] at h
          cases h).symm
      | some d =>
        obtain ⟨hlt, hd'⟩ := List.getElem?_eq_some_iff.1 hd
        have hdrop : w.drop m = d :: w.drop (m + 1) := by rw [List.drop_eq_getElem_cons hlt, hd']
        rw [hdrop, List.take_succ_cons]
        show ((setOf c.toNat).has d.toNat && _) = _
        rw [setOf_has c.toNat_lt d.toNat_lt, Bool.eq_iff_iff]
        simp only [Bool.and_eq_true, decide_eq_true_iff, List.cons.injEq]
        exact ⟨fun ⟨h1, h2⟩ => ⟨UInt8.toNat_inj.1 h1, h2⟩, fun ⟨h1, h2⟩ => ⟨congrArg UInt8.toNat h1, h2⟩⟩
    · rw [decide_eq_false h1, Bool.false_and]
      by_cases h2 : r.length ≤ j
      · rw [show j - r.length = 0 by omega]
        show (_ && (false && _)) = false
        simp
      · rw [decide_eq_false h2, Bool.false_and]

theorem textT_ends (w s : List UInt8) : (textT s).ends w = comp ((leafsT s).map (Tr.ends w)) := by
  match s with
  | [] => show emptyT.ends w = _; rw [show emptyT.ends w = id from Tr.ends0 _ _ _ _ _]; rfl
  | [c] => rfl
  | c :: d :: r => exact Tr.ends2 _ _ _ _ _

theorem text_takes (s : List UInt8) : (textT s).takes s = true := by
  unfold Tr.takes
  rw [textT_ends, text_ends]
  simp [atP]

theorem text_takes_tail (s : List UInt8) (h : s ≠ []) : (textT s).takes (s.drop 1) = false := by
  unfold Tr.takes
  rw [textT_ends, text_ends]
  have : 0 < s.length := List.length_pos_iff.2 h
  rw [decide_eq_false (by rw [List.length_drop]; omega), Bool.false_and]

theorem text_fit (s : List UInt8) (hs : s.length < 2 ^ 10) : (textT s).Fit ∧ (textT s).nodes ≤ s.length + 1 ∧ (textT s).deep ≤ 2 ∧ (textT s).ok = true := by
  have leaf : ∀ c : UInt8, (byteT (setOf c.toNat)).Fit ∧ (byteT (setOf c.toNat)).nodes = 1 ∧ (byteT (setOf c.toNat)).deep = 1 ∧ (byteT (setOf c.toNat)).ok = true := fun c =>
    ⟨.mk (by simp) (fun x hx => by cases hx), rfl, rfl, by
      show (Tr.mk 1 (setOf c.toNat) [] 0 0).ok = true
      rw [Tr.ok_mk]; simp [Tr.okn]⟩
  match s, hs with
  | [], _ => exact ⟨.mk (by simp) (fun x hx => by cases hx), by decide, by decide, by decide⟩
  | [c], _ =>
    obtain ⟨h1, h2, h3, h4⟩ := leaf c
    exact ⟨h1, by show (byteT (setOf c.toNat)).nodes ≤ 2; omega, by show (byteT (setOf c.toNat)).deep ≤ 2; omega, h4⟩
  | c :: d :: r, hs =>
    have hall : ∀ t ∈ leafsT (c :: d :: r), t.Fit ∧ t.nodes = 1 ∧ t.deep = 1 ∧ t.ok = true := fun t ht => by
      obtain ⟨x, _, rfl⟩ := List.mem_map.1 ht
      exact leaf x
    have hlen : (leafsT (c :: d :: r)).length = r.length + 2 := by simp [leafsT]
    have hT : textT (c :: d :: r) = .mk 2 .nil (leafsT (c :: d :: r)) 0 0 := rfl
    rw [hT]
    refine ⟨.mk (by rw [hlen]; simp at hs; omega) fun t ht => (hall t ht).1, ?_, ?_, ?_⟩
    · rw [Tr.nodes_mk]
      have : ∀ l : List Tr, (∀ t ∈ l, t.nodes = 1) → (l.map Tr.nodes).sum = l.length := fun l => by
        induction l with
        | nil => intro _; rfl
        | cons x r ih =>
          intro h
          rw [List.map_cons, List.sum_cons, h x (List.mem_cons_self ..), ih fun t ht => h t (List.mem_cons_of_mem _ ht), List.length_cons]
          omega
      rw [this _ fun t ht => (hall t ht).2.1, hlen]
      simp only [List.length_cons]
      omega
    · rw [Tr.deep_mk]
      have := foldmax_le ((leafsT (c :: d :: r)).map Tr.deep) 0 1 (by omega) fun x hx => by
        obtain ⟨t, ht, rfl⟩ := List.mem_map.1 hx
        rw [(hall t ht).2.2.1]
        exact Nat.le_refl _
      omega
    · rw [Tr.ok_mk, List.all_eq_true.2 fun t ht => (hall t ht).2.2.2, hlen]
      simp [Tr.okn]

theorem alt_takes (l : List Tr) (s : List UInt8) : (severalT 3 (byteT .nil) l).takes s = l.any fun t => t.takes s := by
  match l with
  | [] =>
    unfold Tr.takes
    show (byteT .nil).ends s (atP 0) s.length = false
    rw [show (byteT .nil).ends s = oneE s .nil from Tr.ends1 _ _ _ _ _]
    cases s.length with
    | zero => rfl
    | succ n =>
      show (atP 0 n && (match s[n]? with | some c => Set4.nil.has c.toNat | none => false)) = false
      cases s[n]? with
      | none => simp
      | some c => simp [Set4.has_nil]
  | [t] => simp [severalT]
  | t :: u :: r =>
    unfold Tr.takes
    show (Tr.mk 3 .nil (t :: u :: r) 0 0).ends s (atP 0) s.length = _
    rw [Tr.ends3]

end Hk
