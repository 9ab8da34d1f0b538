/- The walks: At, Takes, alive. -/
import Derived.Test.YtmgkffdnnjpmpaaHkRxJ
namespace Hk
open Go Go.Proofs
set_option linter.unusedVariables false
set_option linter.unusedSimpArgs false
set_option maxRecDepth 100000

def atP (p : Nat) : Pl := fun j => decide (j = p)
def Tr.takes (T : Tr) (s : List UInt8) : Bool := T.ends s (atP 0) s.length

theorem at_fn (s : List UInt8) (hs : s.length < 2 ^ 20) (p : Nat) (hp : p ≤ s.length) : PF Try.prog 40 [.str s, i64 p] (bools s.length (atP p)) := by
  have hs1 : intAr .add .i64 (s.length : Int) 1 = ((s.length + 1 : Nat) : Int) := by rw [add64 (by omega) (by omega)]; omega
  have hroom : (0 ≤ ((s.length + 1 : Nat) : Int) ∧ ((s.length + 1 : Nat) : Int) ≤ ((s.length + 1 : Nat) : Int) ∧ ((s.length + 1 : Nat) : Int) * ((1 : Nat) : Int) ≤ ((roomMost : Nat) : Int) ∧ ((s.length + 1 : Nat) : Int) ≤ ((roomMost : Nat) : Int)) := by
    unfold roomMost; omega
  have hz : List.replicate ((s.length + 1 : Nat) : Int).toNat [PV.b false] = brows s.length (fun _ => false) := by rw [brows_none, Int.toNat_natCast]
  refine pf_intro rf40_eq rmixed rfl ?_
  ((conv => whnf) <;> (repeat (first | (refine And.intro (by first | omega | exact rfl | exact trivial | exact Nat.le_of_ble_eq_true rfl | (simp only [List.length_cons, List.length_nil]; omega)) ?_; conv => whnf) | (refine And.intro ?_ trivial; conv => whnf) | ((with_reducible refine bk_true ?_); conv => whnf) | ((with_reducible refine bk_false ?_); conv => whnf) | (refine ex_get rfl ?_; conv => whnf) | (refine ex_cs rfl rfl ?_; conv => whnf) | ((with_reducible refine bk_nt ?_); conv => whnf) | ((with_reducible refine bk_nf ?_); conv => whnf))))
  rw [hs1, hz]
  ((conv => whnf) <;> (repeat (first | (refine And.intro (by first | omega | exact rfl | exact trivial | exact Nat.le_of_ble_eq_true rfl | (simp only [List.length_cons, List.length_nil]; omega)) ?_; conv => whnf) | (refine And.intro ?_ trivial; conv => whnf) | ((with_reducible refine bk_true ?_); conv => whnf) | ((with_reducible refine bk_false ?_); conv => whnf) | (refine ex_get rfl ?_; conv => whnf) | (refine ex_cs rfl rfl ?_; conv => whnf) | ((with_reducible refine bk_nt ?_); conv => whnf) | ((with_reducible refine bk_nf ?_); conv => whnf))))
  refine ⟨[.b false], by rw [Nat.zero_add, Int.toNat_natCast]; exact brows_get hp, rfl, Nat.le_refl _, ?_⟩
  ((conv => whnf) <;> (repeat (first | (refine And.intro (by first | omega | exact rfl | exact trivial | exact Nat.le_of_ble_eq_true rfl | (simp only [List.length_cons, List.length_nil]; omega)) ?_; conv => whnf) | (refine And.intro ?_ trivial; conv => whnf) | ((with_reducible refine bk_true ?_); conv => whnf) | ((with_reducible refine bk_false ?_); conv => whnf) | (refine ex_get rfl ?_; conv => whnf) | (refine ex_cs rfl rfl ?_; conv => whnf) | ((with_reducible refine bk_nt ?_); conv => whnf) | ((with_reducible refine bk_nf ?_); conv => whnf))))
  refine ⟨.p (bools s.length (atP p)), [], ⟨rfl, rfl⟩, ⟨rfl, rfl⟩, KLe.fsl (rs := brows s.length (atP p)) rfl rfl ?_ (brows_len _ _) (.refl _), .nil _⟩
  rw [Nat.zero_add, Int.toNat_natCast]
  show List.take _ ((brows s.length fun _ => false).set p [.b true]) = _
  rw [brows_set (g := atP p) (v := true) (fun j hj hne => by unfold atP; rw [decide_eq_false hne]) (by unfold atP; simp) hp]
  exact take_all (by rw [brows_len]; exact Nat.le_refl _)

theorem takes_fn (T : Tr) (hT : T.Fit) (hok : T.ok = true) (s : List UInt8) (hs : s.length < 2 ^ 20) : PF Try.prog 47 [T.pv, .str s] (.b (T.takes s)) := by
  have h1 := ends_fn s hs T hT hok (atP 0)
  have h2 := at_fn s hs 0 (Nat.zero_le _)
  have hbl := brows_len s.length (T.ends s (atP 0))
  unfold Tr.takes
  generalize T.ends s (atP 0) = g at h1 hbl ⊢
  obtain ⟨k, set, sub, lo, hi⟩ := T
  refine pf_intro rf47_eq rmixed rfl ?_
  ((conv => whnf) <;> (repeat (first | (refine And.intro (by first | omega | exact rfl | exact trivial | exact Nat.le_of_ble_eq_true rfl | (simp only [List.length_cons, List.length_nil]; omega)) ?_; conv => whnf) | (refine And.intro ?_ trivial; conv => whnf) | ((with_reducible refine bk_true ?_); conv => whnf) | ((with_reducible refine bk_false ?_); conv => whnf) | (refine ex_get rfl ?_; conv => whnf) | (refine ex_cs rfl rfl ?_; conv => whnf) | ((with_reducible refine bk_nt ?_); conv => whnf) | ((with_reducible refine bk_nf ?_); conv => whnf))))
  refine vcall_pf h2 rfl rfl ?_
  ((conv => whnf) <;> (repeat (first | (refine And.intro (by first | omega | exact rfl | exact trivial | exact Nat.le_of_ble_eq_true rfl | (simp only [List.length_cons, List.length_nil]; omega)) ?_; conv => whnf) | (refine And.intro ?_ trivial; conv => whnf) | ((with_reducible refine bk_true ?_); conv => whnf) | ((with_reducible refine bk_false ?_); conv => whnf) | (refine ex_get rfl ?_; conv => whnf) | (refine ex_cs rfl rfl ?_; conv => whnf) | ((with_reducible refine bk_nt ?_); conv => whnf) | ((with_reducible refine bk_nf ?_); conv => whnf))))
  refine vcall_pf h1 rfl rfl ?_
  ((conv => whnf) <;> (repeat (first | (refine And.intro (by first | omega | exact rfl | exact trivial | exact Nat.le_of_ble_eq_true rfl | (simp only [List.length_cons, List.length_nil]; omega)) ?_; conv => whnf) | (refine And.intro ?_ trivial; conv => whnf) | ((with_reducible refine bk_true ?_); conv => whnf) | ((with_reducible refine bk_false ?_); conv => whnf) | (refine ex_get rfl ?_; conv => whnf) | (refine ex_cs rfl rfl ?_; conv => whnf) | ((with_reducible refine bk_nt ?_); conv => whnf) | ((with_reducible refine bk_nf ?_); conv => whnf))))
  refine ⟨[.b (g s.length)], by rw [Int.toNat_natCast]; exact brows_get (Nat.le_refl _), ?_⟩
  ((conv => whnf) <;> (repeat (first | (refine And.intro (by first | omega | exact rfl | exact trivial | exact Nat.le_of_ble_eq_true rfl | (simp only [List.length_cons, List.length_nil]; omega)) ?_; conv => whnf) | (refine And.intro ?_ trivial; conv => whnf) | ((with_reducible refine bk_true ?_); conv => whnf) | ((with_reducible refine bk_false ?_); conv => whnf) | (refine ex_get rfl ?_; conv => whnf) | (refine ex_cs rfl rfl ?_; conv => whnf) | ((with_reducible refine bk_nt ?_); conv => whnf) | ((with_reducible refine bk_nf ?_); conv => whnf))))
  exact ret_pf rfl rfl rfl

def exT : Tr := severalT 2 emptyT [textT [97, 98], .mk 4 .nil [byteT (range' 48 57)] 0 (-1)]

theorem exT_may : exT.may = true := by kernel_rfl
theorem exT_nodes : exT.nodes = 6 := by kernel_rfl
theorem exT_deep : exT.deep = 3 := by kernel_rfl
theorem exT_first : exT.facts.first = range' 97 97 := by kernel_rfl
theorem exT_l1 : exT.facts.last.has 98 = true := by kernel_rfl
theorem exT_l2 : exT.facts.last.has 53 = true := by kernel_rfl

theorem exT_fit : exT.Fit :=
  .mk (by decide) fun t ht => by
    rcases List.mem_cons.1 ht with rfl | ht
    · exact .mk (by decide) fun x hx => by
        rcases List.mem_cons.1 hx with rfl | hx
        · exact .mk (by decide) fun y hy => by cases hy
        · rw [List.mem_singleton.1 hx]; exact .mk (by decide) fun y hy => by cases hy
    · rw [List.mem_singleton.1 ht]
      exact .mk (by decide) fun x hx => by
        rw [List.mem_singleton.1 hx]; exact .mk (by decide) fun y hy => by cases hy

theorem cells_self (s : Set4) : cellsEq [u64 s.a, u64 s.b, u64 s.c, u64 s.d] [u64 s.a, u64 s.b, u64 s.c, u64 s.d] = true := by
  simp [cellsEq, cellEq]

theorem alive4_fn : PF Try.prog 34 [] (.b true) := by
  have hf := exT_fit
  have e1 : IntKind.i64.wrap (exT.nodes : Int) = 6 := by rw [exT_nodes]; decide
  have h1 := rxNodes_fn exT hf (by rw [exT_deep]; decide)
  have h2 := rxDeep_fn exT hf (by rw [exT_deep]; decide)
  have h3 := first_fn exT hf (by rw [exT_nodes]; decide)
  have h4 := last_fn exT hf (by rw [exT_nodes]; decide)
  have et : exT.told = exT.facts := by unfold Tr.told; rw [exT_may]; rfl
  have h5 := has_fn exT.facts.last 98 (by decide)
  have h6 := has_fn exT.facts.last 53 (by decide)
  rw [e1] at h1
  rw [exT_deep] at h2
  rw [et, exT_first] at h3
  rw [et] at h4
  rw [exT_l1] at h5
  rw [exT_l2] at h6
  have hfit2 : ∀ t ∈ [textT [97, 98], Tr.mk 4 .nil [byteT (range' 48 57)] 0 (-1)], t.Fit ∧ t.nodes < 2 ^ 20 := fun t ht =>
    ⟨hf.sub t ht, by
      have := Tr.nodes_sub (k := 2) (s := .nil) (lo := 0) (hi := 0) ht
      have e : (Tr.mk 2 .nil [textT [97, 98], Tr.mk 4 .nil [byteT (range' 48 57)] 0 (-1)] 0 0).nodes = 6 := exT_nodes
      omega⟩
  have hcat := cat_fn [textT [97, 98], .mk 4 .nil [byteT (range' 48 57)] 0 (-1)] hfit2 (by decide)
  have hrep := rep_fn (byteT (range' 48 57)) (.mk (by decide) fun y hy => by cases hy) (by decide) 0 (-1)
  have hct : severalT 2 emptyT [textT [97, 98], .mk 4 .nil [byteT (range' 48 57)] 0 (-1)] = exT := rfl
  rw [hct] at hcat
  have hr1 := range_fn 48 57 (by decide) (by decide)
  have hr2 := range_fn 97 97 (by decide) (by decide)
  have htx := text_fn [97, 98] (by decide)
  refine pf_intro rf34_eq rmixed rfl ?_
  generalize exT.facts.last = L at h4 h5 h6
  generalize exT = X at *
  obtain ⟨xk, xs, xsub, xlo, xhi⟩ := X
  generalize range' 48 57 = R at *
  generalize range' 97 97 = R2 at *
  generalize textT [97, 98] = X2 at *
  obtain ⟨yk, ys, ysub, ylo, yhi⟩ := X2
  ((conv => whnf) <;> (repeat (first | (refine And.intro (by first | omega | exact rfl | exact trivial | exact Nat.le_of_ble_eq_true rfl | (simp only [List.length_cons, List.length_nil]; omega)) ?_; conv => whnf) | (refine And.intro ?_ trivial; conv => whnf) | ((with_reducible refine bk_true ?_); conv => whnf) | ((with_reducible refine bk_false ?_); conv => whnf) | (refine ex_get rfl ?_; conv => whnf) | (refine ex_cs rfl rfl ?_; conv => whnf) | ((with_reducible refine bk_nt ?_); conv => whnf) | ((with_reducible refine bk_nf ?_); conv => whnf))))
  refine vcall_pf htx rfl rfl ?_
  ((conv => whnf) <;> (repeat (first | (refine And.intro (by first | omega | exact rfl | exact trivial | exact Nat.le_of_ble_eq_true rfl | (simp only [List.length_cons, List.length_nil]; omega)) ?_; conv => whnf) | (refine And.intro ?_ trivial; conv => whnf) | ((with_reducible refine bk_true ?_); conv => whnf) | ((with_reducible refine bk_false ?_); conv => whnf) | (refine ex_get rfl ?_; conv => whnf) | (refine ex_cs rfl rfl ?_; conv => whnf) | ((with_reducible refine bk_nt ?_); conv => whnf) | ((with_reducible refine bk_nf ?_); conv => whnf))))
  refine vcall_pf hr1 rfl rfl ?_
  ((conv => whnf) <;> (repeat (first | (refine And.intro (by first | omega | exact rfl | exact trivial | exact Nat.le_of_ble_eq_true rfl | (simp only [List.length_cons, List.length_nil]; omega)) ?_; conv => whnf) | (refine And.intro ?_ trivial; conv => whnf) | ((with_reducible refine bk_true ?_); conv => whnf) | ((with_reducible refine bk_false ?_); conv => whnf) | (refine ex_get rfl ?_; conv => whnf) | (refine ex_cs rfl rfl ?_; conv => whnf) | ((with_reducible refine bk_nt ?_); conv => whnf) | ((with_reducible refine bk_nf ?_); conv => whnf))))
  refine vcall_pf (byte_of R) rfl rfl ?_
  ((conv => whnf) <;> (repeat (first | (refine And.intro (by first | omega | exact rfl | exact trivial | exact Nat.le_of_ble_eq_true rfl | (simp only [List.length_cons, List.length_nil]; omega)) ?_; conv => whnf) | (refine And.intro ?_ trivial; conv => whnf) | ((with_reducible refine bk_true ?_); conv => whnf) | ((with_reducible refine bk_false ?_); conv => whnf) | (refine ex_get rfl ?_; conv => whnf) | (refine ex_cs rfl rfl ?_; conv => whnf) | ((with_reducible refine bk_nt ?_); conv => whnf) | ((with_reducible refine bk_nf ?_); conv => whnf))))
  refine vcall_pf hrep rfl rfl ?_
  ((conv => whnf) <;> (repeat (first | (refine And.intro (by first | omega | exact rfl | exact trivial | exact Nat.le_of_ble_eq_true rfl | (simp only [List.length_cons, List.length_nil]; omega)) ?_; conv => whnf) | (refine And.intro ?_ trivial; conv => whnf) | ((with_reducible refine bk_true ?_); conv => whnf) | ((with_reducible refine bk_false ?_); conv => whnf) | (refine ex_get rfl ?_; conv => whnf) | (refine ex_cs rfl rfl ?_; conv => whnf) | ((with_reducible refine bk_nt ?_); conv => whnf) | ((with_reducible refine bk_nf ?_); conv => whnf))))
  refine And.intro (fun r hr => by
    rcases List.mem_cons.1 hr with rfl | hr
    · rfl
    · rw [List.mem_singleton.1 hr]; rfl) ?_
  ((conv => whnf) <;> (repeat (first | (refine And.intro (by first | omega | exact rfl | exact trivial | exact Nat.le_of_ble_eq_true rfl | (simp only [List.length_cons, List.length_nil]; omega)) ?_; conv => whnf) | (refine And.intro ?_ trivial; conv => whnf) | ((with_reducible refine bk_true ?_); conv => whnf) | ((with_reducible refine bk_false ?_); conv => whnf) | (refine ex_get rfl ?_; conv => whnf) | (refine ex_cs rfl rfl ?_; conv => whnf) | ((with_reducible refine bk_nt ?_); conv => whnf) | ((with_reducible refine bk_nf ?_); conv => whnf))))
  refine vcall_frz [0] hcat rfl (.cons (.fsl (rs := Tr.rowsL [.mk yk ys ysub ylo yhi, .mk 4 .nil [byteT R] 0 (-1)]) rfl rfl rfl rfl (.refl _)) .nil) ?_
  ((conv => whnf) <;> (repeat (first | (refine And.intro (by first | omega | exact rfl | exact trivial | exact Nat.le_of_ble_eq_true rfl | (simp only [List.length_cons, List.length_nil]; omega)) ?_; conv => whnf) | (refine And.intro ?_ trivial; conv => whnf) | ((with_reducible refine bk_true ?_); conv => whnf) | ((with_reducible refine bk_false ?_); conv => whnf) | (refine ex_get rfl ?_; conv => whnf) | (refine ex_cs rfl rfl ?_; conv => whnf) | ((with_reducible refine bk_nt ?_); conv => whnf) | ((with_reducible refine bk_nf ?_); conv => whnf))))
  refine vcall_pf h1 rfl rfl ?_
  ((conv => whnf) <;> (repeat (first | (refine And.intro (by first | omega | exact rfl | exact trivial | exact Nat.le_of_ble_eq_true rfl | (simp only [List.length_cons, List.length_nil]; omega)) ?_; conv => whnf) | (refine And.intro ?_ trivial; conv => whnf) | ((with_reducible refine bk_true ?_); conv => whnf) | ((with_reducible refine bk_false ?_); conv => whnf) | (refine ex_get rfl ?_; conv => whnf) | (refine ex_cs rfl rfl ?_; conv => whnf) | ((with_reducible refine bk_nt ?_); conv => whnf) | ((with_reducible refine bk_nf ?_); conv => whnf))))
  refine bk_is (eqlT rfl) ?_
  ((conv => whnf) <;> (repeat (first | (refine And.intro (by first | omega | exact rfl | exact trivial | exact Nat.le_of_ble_eq_true rfl | (simp only [List.length_cons, List.length_nil]; omega)) ?_; conv => whnf) | (refine And.intro ?_ trivial; conv => whnf) | ((with_reducible refine bk_true ?_); conv => whnf) | ((with_reducible refine bk_false ?_); conv => whnf) | (refine ex_get rfl ?_; conv => whnf) | (refine ex_cs rfl rfl ?_; conv => whnf) | ((with_reducible refine bk_nt ?_); conv => whnf) | ((with_reducible refine bk_nf ?_); conv => whnf))))
  refine vcall_pf h2 rfl rfl ?_
  ((conv => whnf) <;> (repeat (first | (refine And.intro (by first | omega | exact rfl | exact trivial | exact Nat.le_of_ble_eq_true rfl | (simp only [List.length_cons, List.length_nil]; omega)) ?_; conv => whnf) | (refine And.intro ?_ trivial; conv => whnf) | ((with_reducible refine bk_true ?_); conv => whnf) | ((with_reducible refine bk_false ?_); conv => whnf) | (refine ex_get rfl ?_; conv => whnf) | (refine ex_cs rfl rfl ?_; conv => whnf) | ((with_reducible refine bk_nt ?_); conv => whnf) | ((with_reducible refine bk_nf ?_); conv => whnf))))
  refine bk_is (eqlT rfl) ?_
  ((conv => whnf) <;> (repeat (first | (refine And.intro (by first | omega | exact rfl | exact trivial | exact Nat.le_of_ble_eq_true rfl | (simp only [List.length_cons, List.length_nil]; omega)) ?_; conv => whnf) | (refine And.intro ?_ trivial; conv => whnf) | ((with_reducible refine bk_true ?_); conv => whnf) | ((with_reducible refine bk_false ?_); conv => whnf) | (refine ex_get rfl ?_; conv => whnf) | (refine ex_cs rfl rfl ?_; conv => whnf) | ((with_reducible refine bk_nt ?_); conv => whnf) | ((with_reducible refine bk_nf ?_); conv => whnf))))
  refine vcall_pf h3 rfl rfl ?_
  ((conv => whnf) <;> (repeat (first | (refine And.intro (by first | omega | exact rfl | exact trivial | exact Nat.le_of_ble_eq_true rfl | (simp only [List.length_cons, List.length_nil]; omega)) ?_; conv => whnf) | (refine And.intro ?_ trivial; conv => whnf) | ((with_reducible refine bk_true ?_); conv => whnf) | ((with_reducible refine bk_false ?_); conv => whnf) | (refine ex_get rfl ?_; conv => whnf) | (refine ex_cs rfl rfl ?_; conv => whnf) | ((with_reducible refine bk_nt ?_); conv => whnf) | ((with_reducible refine bk_nf ?_); conv => whnf))))
  refine vcall_pf hr2 rfl rfl ?_
  ((conv => whnf) <;> (repeat (first | (refine And.intro (by first | omega | exact rfl | exact trivial | exact Nat.le_of_ble_eq_true rfl | (simp only [List.length_cons, List.length_nil]; omega)) ?_; conv => whnf) | (refine And.intro ?_ trivial; conv => whnf) | ((with_reducible refine bk_true ?_); conv => whnf) | ((with_reducible refine bk_false ?_); conv => whnf) | (refine ex_get rfl ?_; conv => whnf) | (refine ex_cs rfl rfl ?_; conv => whnf) | ((with_reducible refine bk_nt ?_); conv => whnf) | ((with_reducible refine bk_nf ?_); conv => whnf))))
  refine bk_is (cells_self R2) ?_
  ((conv => whnf) <;> (repeat (first | (refine And.intro (by first | omega | exact rfl | exact trivial | exact Nat.le_of_ble_eq_true rfl | (simp only [List.length_cons, List.length_nil]; omega)) ?_; conv => whnf) | (refine And.intro ?_ trivial; conv => whnf) | ((with_reducible refine bk_true ?_); conv => whnf) | ((with_reducible refine bk_false ?_); conv => whnf) | (refine ex_get rfl ?_; conv => whnf) | (refine ex_cs rfl rfl ?_; conv => whnf) | ((with_reducible refine bk_nt ?_); conv => whnf) | ((with_reducible refine bk_nf ?_); conv => whnf))))
  refine vcall_pf h4 rfl rfl ?_
  ((conv => whnf) <;> (repeat (first | (refine And.intro (by first | omega | exact rfl | exact trivial | exact Nat.le_of_ble_eq_true rfl | (simp only [List.length_cons, List.length_nil]; omega)) ?_; conv => whnf) | (refine And.intro ?_ trivial; conv => whnf) | ((with_reducible refine bk_true ?_); conv => whnf) | ((with_reducible refine bk_false ?_); conv => whnf) | (refine ex_get rfl ?_; conv => whnf) | (refine ex_cs rfl rfl ?_; conv => whnf) | ((with_reducible refine bk_nt ?_); conv => whnf) | ((with_reducible refine bk_nf ?_); conv => whnf))))
  refine vcall_pf h5 rfl rfl ?_
  ((conv => whnf) <;> (repeat (first | (refine And.intro (by first | omega | exact rfl | exact trivial | exact Nat.le_of_ble_eq_true rfl | (simp only [List.length_cons, List.length_nil]; omega)) ?_; conv => whnf) | (refine And.intro ?_ trivial; conv => whnf) | ((with_reducible refine bk_true ?_); conv => whnf) | ((with_reducible refine bk_false ?_); conv => whnf) | (refine ex_get rfl ?_; conv => whnf) | (refine ex_cs rfl rfl ?_; conv => whnf) | ((with_reducible refine bk_nt ?_); conv => whnf) | ((with_reducible refine bk_nf ?_); conv => whnf))))
  refine vcall_pf h4 rfl rfl ?_
  ((conv => whnf) <;> (repeat (first | (refine And.intro (by first | omega | exact rfl | exact trivial | exact Nat.le_of_ble_eq_true rfl | (simp only [List.length_cons, List.length_nil]; omega)) ?_; conv => whnf) | (refine And.intro ?_ trivial; conv => whnf) | ((with_reducible refine bk_true ?_); conv => whnf) | ((with_reducible refine bk_false ?_); conv => whnf) | (refine ex_get rfl ?_; conv => whnf) | (refine ex_cs rfl rfl ?_; conv => whnf) | ((with_reducible refine bk_nt ?_); conv => whnf) | ((with_reducible refine bk_nf ?_); conv => whnf))))
  refine vcall_pf h6 rfl rfl ?_
  ((conv => whnf) <;> (repeat (first | (refine And.intro (by first | omega | exact rfl | exact trivial | exact Nat.le_of_ble_eq_true rfl | (simp only [List.length_cons, List.length_nil]; omega)) ?_; conv => whnf) | (refine And.intro ?_ trivial; conv => whnf) | ((with_reducible refine bk_true ?_); conv => whnf) | ((with_reducible refine bk_false ?_); conv => whnf) | (refine ex_get rfl ?_; conv => whnf) | (refine ex_cs rfl rfl ?_; conv => whnf) | ((with_reducible refine bk_nt ?_); conv => whnf) | ((with_reducible refine bk_nf ?_); conv => whnf))))
  exact ret_pf rfl rfl rfl

end Hk
