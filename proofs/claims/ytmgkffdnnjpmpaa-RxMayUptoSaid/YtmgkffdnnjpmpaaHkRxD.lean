/- The walks over sets and facts. -/
import Derived.Test.YtmgkffdnnjpmpaaHkRxC
namespace Hk
open Go Go.Proofs
set_option linter.unusedVariables false
set_option linter.unusedSimpArgs false
set_option maxRecDepth 100000

theorem ofInt64 (a : BitVec 64) : BitVec.ofInt 64 (a.toNat : Int) = a := by simp
theorem u64_or (a b : BitVec 64) : intAr .or .u64 (a.toNat : Int) (b.toNat : Int) = ((a ||| b).toNat : Int) := by
  show IntKind.u64.wrap ((BitVec.ofInt 64 _ ||| BitVec.ofInt 64 _).toNat : Int) = _
  rw [ofInt64, ofInt64, wrap_u64]
  have := (a ||| b).isLt
  omega

theorem orF_fn (x y : BitVec 64) : PF Try.prog 98 [u64 x, u64 y] (u64 (x ||| y)) := by
  refine pf_intro rf98_eq rmixed rfl ?_
  ((conv => whnf) <;> (repeat (first | (refine And.intro (by first | omega | exact rfl | exact trivial | exact Nat.le_of_ble_eq_true rfl | (simp only [List.length_cons, List.length_nil]; omega)) ?_; conv => whnf) | (refine And.intro ?_ trivial; conv => whnf) | ((with_reducible refine bk_true ?_); conv => whnf) | ((with_reducible refine bk_false ?_); conv => whnf) | (refine ex_get rfl ?_; conv => whnf) | (refine ex_cs rfl rfl ?_; conv => whnf) | ((with_reducible refine bk_nt ?_); conv => whnf) | ((with_reducible refine bk_nf ?_); conv => whnf))))
  exact ret_pf rfl rfl (congrArg (PV.int .u64) (u64_or x y))

def orTo (s t : Set4) (i : Nat) : Set4 :=
  ⟨if 0 < i then s.a ||| t.a else s.a, if 1 < i then s.b ||| t.b else s.b, if 2 < i then s.c ||| t.c else s.c, if 3 < i then s.d ||| t.d else s.d⟩

theorem eachOr_fn (s t : Set4) : PF Try.prog 97 [.agg s.cells, .agg t.cells, .fn 98 [] []] (.agg (s.or t).cells) := by
  refine pf_intro rf97_eq rmixed rfl ?_
  ((conv => whnf) <;> (repeat (first | (refine And.intro (by first | omega | exact rfl | exact trivial | exact Nat.le_of_ble_eq_true rfl | (simp only [List.length_cons, List.length_nil]; omega)) ?_; conv => whnf) | (refine And.intro ?_ trivial; conv => whnf) | ((with_reducible refine bk_true ?_); conv => whnf) | ((with_reducible refine bk_false ?_); conv => whnf) | (refine ex_get rfl ?_; conv => whnf) | (refine ex_cs rfl rfl ?_; conv => whnf) | ((with_reducible refine bk_nt ?_); conv => whnf) | ((with_reducible refine bk_nf ?_); conv => whnf))))
  refine ⟨[], Nat, fun i => ⟨[(2, .p (.fn 98 [] [])), (3, .ptr 0 4 0 0), (4, .ptr 1 4 0 0), (6, .ptr 2 4 0 0), (8, .p (i64 i))],
      [.pr 4 [(orTo s t i).cells], .pr 4 [t.cells], .pr 4 [Set4.nil.cells]]⟩, fun i => i ≤ 4, fun i => 4 - i, ⟨0, by omega, ?_⟩, fun i hi => ?_⟩
  · (refine ⟨⟨rfl, rfl⟩, ?_, ?_⟩ <;> (repeat' (first | exact TLe.nil | exact HLe.nil _ | refine TLe.cons ?_ ?_ | refine HLe.cons ?_ ?_ | exact KLe.ptr rfl | exact KLe.sl rfl (.inl rfl) | exact KLe.csl rfl | refine KLe.pe ?_ | refine BLe.pe ?_ | refine BLe.mx ?_ | exact KLeL.nil | refine KLe.fn ?_ ?_ | refine KLeL.cons ?_ ?_ | exact KLe.und _ | exact BLe.dead _)) <;> (try with_reducible rfl))
    all_goals rfl
  · have hi : i ≤ 4 := hi
    ((conv => whnf) <;> (repeat (first | (refine And.intro (by first | omega | exact rfl | exact trivial | exact Nat.le_of_ble_eq_true rfl | (simp only [List.length_cons, List.length_nil]; omega)) ?_; conv => whnf) | (refine And.intro ?_ trivial; conv => whnf) | ((with_reducible refine bk_true ?_); conv => whnf) | ((with_reducible refine bk_false ?_); conv => whnf) | (refine ex_get rfl ?_; conv => whnf) | (refine ex_cs rfl rfl ?_; conv => whnf) | ((with_reducible refine bk_nt ?_); conv => whnf) | ((with_reducible refine bk_nf ?_); conv => whnf))))
    match i, hi with
    | 0, _ =>
      refine bk_is (lssT (by omega)) ?_
      ((conv => whnf) <;> (repeat (first | (refine And.intro (by first | omega | exact rfl | exact trivial | exact Nat.le_of_ble_eq_true rfl | (simp only [List.length_cons, List.length_nil]; omega)) ?_; conv => whnf) | (refine And.intro ?_ trivial; conv => whnf) | ((with_reducible refine bk_true ?_); conv => whnf) | ((with_reducible refine bk_false ?_); conv => whnf) | (refine ex_get rfl ?_; conv => whnf) | (refine ex_cs rfl rfl ?_; conv => whnf) | ((with_reducible refine bk_nt ?_); conv => whnf) | ((with_reducible refine bk_nf ?_); conv => whnf))))
      refine vcall_pf (orF_fn s.a t.a) rfl rfl ?_
      ((conv => whnf) <;> (repeat (first | (refine And.intro (by first | omega | exact rfl | exact trivial | exact Nat.le_of_ble_eq_true rfl | (simp only [List.length_cons, List.length_nil]; omega)) ?_; conv => whnf) | (refine And.intro ?_ trivial; conv => whnf) | ((with_reducible refine bk_true ?_); conv => whnf) | ((with_reducible refine bk_false ?_); conv => whnf) | (refine ex_get rfl ?_; conv => whnf) | (refine ex_cs rfl rfl ?_; conv => whnf) | ((with_reducible refine bk_nt ?_); conv => whnf) | ((with_reducible refine bk_nf ?_); conv => whnf))))
      refine ⟨1, by omega, (by decide : 4 - 1 < 4 - 0), ?_⟩
      (refine ⟨⟨rfl, rfl⟩, ?_, ?_⟩ <;> (repeat' (first | exact TLe.nil | exact HLe.nil _ | refine TLe.cons ?_ ?_ | refine HLe.cons ?_ ?_ | exact KLe.ptr rfl | exact KLe.sl rfl (.inl rfl) | exact KLe.csl rfl | refine KLe.pe ?_ | refine BLe.pe ?_ | refine BLe.mx ?_ | exact KLeL.nil | refine KLe.fn ?_ ?_ | refine KLeL.cons ?_ ?_ | exact KLe.und _ | exact BLe.dead _)) <;> (try with_reducible rfl))
      all_goals first | rfl | ((refine congrArg (PV.int IntKind.i64) ?_) <;> (first | rfl | omega | (rw [add64 (by omega) (by omega)]; omega) | (rw [sub64 (by omega) (by omega)]; omega))) | trace_state
    | 1, _ =>
      refine bk_is (lssT (by omega)) ?_
      ((conv => whnf) <;> (repeat (first | (refine And.intro (by first | omega | exact rfl | exact trivial | exact Nat.le_of_ble_eq_true rfl | (simp only [List.length_cons, List.length_nil]; omega)) ?_; conv => whnf) | (refine And.intro ?_ trivial; conv => whnf) | ((with_reducible refine bk_true ?_); conv => whnf) | ((with_reducible refine bk_false ?_); conv => whnf) | (refine ex_get rfl ?_; conv => whnf) | (refine ex_cs rfl rfl ?_; conv => whnf) | ((with_reducible refine bk_nt ?_); conv => whnf) | ((with_reducible refine bk_nf ?_); conv => whnf))))
      refine vcall_pf (orF_fn s.b t.b) rfl rfl ?_
      ((conv => whnf) <;> (repeat (first | (refine And.intro (by first | omega | exact rfl | exact trivial | exact Nat.le_of_ble_eq_true rfl | (simp only [List.length_cons, List.length_nil]; omega)) ?_; conv => whnf) | (refine And.intro ?_ trivial; conv => whnf) | ((with_reducible refine bk_true ?_); conv => whnf) | ((with_reducible refine bk_false ?_); conv => whnf) | (refine ex_get rfl ?_; conv => whnf) | (refine ex_cs rfl rfl ?_; conv => whnf) | ((with_reducible refine bk_nt ?_); conv => whnf) | ((with_reducible refine bk_nf ?_); conv => whnf))))
      refine ⟨2, by omega, (by decide : 4 - 2 < 4 - 1), ?_⟩
      (refine ⟨⟨rfl, rfl⟩, ?_, ?_⟩ <;> (repeat' (first | exact TLe.nil | exact HLe.nil _ | refine TLe.cons ?_ ?_ | refine HLe.cons ?_ ?_ | exact KLe.ptr rfl | exact KLe.sl rfl (.inl rfl) | exact KLe.csl rfl | refine KLe.pe ?_ | refine BLe.pe ?_ | refine BLe.mx ?_ | exact KLeL.nil | refine KLe.fn ?_ ?_ | refine KLeL.cons ?_ ?_ | exact KLe.und _ | exact BLe.dead _)) <;> (try with_reducible rfl))
      all_goals first | rfl | ((refine congrArg (PV.int IntKind.i64) ?_) <;> (first | rfl | omega | (rw [add64 (by omega) (by omega)]; omega) | (rw [sub64 (by omega) (by omega)]; omega))) | trace_state
    | 2, _ =>
      refine bk_is (lssT (by omega)) ?_
      ((conv => whnf) <;> (repeat (first | (refine And.intro (by first | omega | exact rfl | exact trivial | exact Nat.le_of_ble_eq_true rfl | (simp only [List.length_cons, List.length_nil]; omega)) ?_; conv => whnf) | (refine And.intro ?_ trivial; conv => whnf) | ((with_reducible refine bk_true ?_); conv => whnf) | ((with_reducible refine bk_false ?_); conv => whnf) | (refine ex_get rfl ?_; conv => whnf) | (refine ex_cs rfl rfl ?_; conv => whnf) | ((with_reducible refine bk_nt ?_); conv => whnf) | ((with_reducible refine bk_nf ?_); conv => whnf))))
      refine vcall_pf (orF_fn s.c t.c) rfl rfl ?_
      ((conv => whnf) <;> (repeat (first | (refine And.intro (by first | omega | exact rfl | exact trivial | exact Nat.le_of_ble_eq_true rfl | (simp only [List.length_cons, List.length_nil]; omega)) ?_; conv => whnf) | (refine And.intro ?_ trivial; conv => whnf) | ((with_reducible refine bk_true ?_); conv => whnf) | ((with_reducible refine bk_false ?_); conv => whnf) | (refine ex_get rfl ?_; conv => whnf) | (refine ex_cs rfl rfl ?_; conv => whnf) | ((with_reducible refine bk_nt ?_); conv => whnf) | ((with_reducible refine bk_nf ?_); conv => whnf))))
      refine ⟨3, by omega, (by decide : 4 - 3 < 4 - 2), ?_⟩
      (refine ⟨⟨rfl, rfl⟩, ?_, ?_⟩ <;> (repeat' (first | exact TLe.nil | exact HLe.nil _ | refine TLe.cons ?_ ?_ | refine HLe.cons ?_ ?_ | exact KLe.ptr rfl | exact KLe.sl rfl (.inl rfl) | exact KLe.csl rfl | refine KLe.pe ?_ | refine BLe.pe ?_ | refine BLe.mx ?_ | exact KLeL.nil | refine KLe.fn ?_ ?_ | refine KLeL.cons ?_ ?_ | exact KLe.und _ | exact BLe.dead _)) <;> (try with_reducible rfl))
      all_goals first | rfl | ((refine congrArg (PV.int IntKind.i64) ?_) <;> (first | rfl | omega | (rw [add64 (by omega) (by omega)]; omega) | (rw [sub64 (by omega) (by omega)]; omega))) | trace_state
    | 3, _ =>
      refine bk_is (lssT (by omega)) ?_
      ((conv => whnf) <;> (repeat (first | (refine And.intro (by first | omega | exact rfl | exact trivial | exact Nat.le_of_ble_eq_true rfl | (simp only [List.length_cons, List.length_nil]; omega)) ?_; conv => whnf) | (refine And.intro ?_ trivial; conv => whnf) | ((with_reducible refine bk_true ?_); conv => whnf) | ((with_reducible refine bk_false ?_); conv => whnf) | (refine ex_get rfl ?_; conv => whnf) | (refine ex_cs rfl rfl ?_; conv => whnf) | ((with_reducible refine bk_nt ?_); conv => whnf) | ((with_reducible refine bk_nf ?_); conv => whnf))))
      refine vcall_pf (orF_fn s.d t.d) rfl rfl ?_
      ((conv => whnf) <;> (repeat (first | (refine And.intro (by first | omega | exact rfl | exact trivial | exact Nat.le_of_ble_eq_true rfl | (simp only [List.length_cons, List.length_nil]; omega)) ?_; conv => whnf) | (refine And.intro ?_ trivial; conv => whnf) | ((with_reducible refine bk_true ?_); conv => whnf) | ((with_reducible refine bk_false ?_); conv => whnf) | (refine ex_get rfl ?_; conv => whnf) | (refine ex_cs rfl rfl ?_; conv => whnf) | ((with_reducible refine bk_nt ?_); conv => whnf) | ((with_reducible refine bk_nf ?_); conv => whnf))))
      refine ⟨4, by omega, (by decide : 4 - 4 < 4 - 3), ?_⟩
      (refine ⟨⟨rfl, rfl⟩, ?_, ?_⟩ <;> (repeat' (first | exact TLe.nil | exact HLe.nil _ | refine TLe.cons ?_ ?_ | refine HLe.cons ?_ ?_ | exact KLe.ptr rfl | exact KLe.sl rfl (.inl rfl) | exact KLe.csl rfl | refine KLe.pe ?_ | refine BLe.pe ?_ | refine BLe.mx ?_ | exact KLeL.nil | refine KLe.fn ?_ ?_ | refine KLeL.cons ?_ ?_ | exact KLe.und _ | exact BLe.dead _)) <;> (try with_reducible rfl))
      all_goals first | rfl | ((refine congrArg (PV.int IntKind.i64) ?_) <;> (first | rfl | omega | (rw [add64 (by omega) (by omega)]; omega) | (rw [sub64 (by omega) (by omega)]; omega))) | trace_state
    | 4, _ =>
      refine bk_is (lssF (by omega)) ?_
      ((conv => whnf) <;> (repeat (first | (refine And.intro (by first | omega | exact rfl | exact trivial | exact Nat.le_of_ble_eq_true rfl | (simp only [List.length_cons, List.length_nil]; omega)) ?_; conv => whnf) | (refine And.intro ?_ trivial; conv => whnf) | ((with_reducible refine bk_true ?_); conv => whnf) | ((with_reducible refine bk_false ?_); conv => whnf) | (refine ex_get rfl ?_; conv => whnf) | (refine ex_cs rfl rfl ?_; conv => whnf) | ((with_reducible refine bk_nt ?_); conv => whnf) | ((with_reducible refine bk_nf ?_); conv => whnf))))
      refine ret_pf rfl rfl ?_
      rfl

theorem any_fn (s t : Set4) : PF Try.prog 96 [.agg s.cells, .agg t.cells] (.agg (s.or t).cells) := by
  refine pf_intro rf96_eq rmixed rfl ?_
  ((conv => whnf) <;> (repeat (first | (refine And.intro (by first | omega | exact rfl | exact trivial | exact Nat.le_of_ble_eq_true rfl | (simp only [List.length_cons, List.length_nil]; omega)) ?_; conv => whnf) | (refine And.intro ?_ trivial; conv => whnf) | ((with_reducible refine bk_true ?_); conv => whnf) | ((with_reducible refine bk_false ?_); conv => whnf) | (refine ex_get rfl ?_; conv => whnf) | (refine ex_cs rfl rfl ?_; conv => whnf) | ((with_reducible refine bk_nt ?_); conv => whnf) | ((with_reducible refine bk_nf ?_); conv => whnf))))
  refine vcall_pf (eachOr_fn s t) rfl rfl ?_
  ((conv => whnf) <;> (repeat (first | (refine And.intro (by first | omega | exact rfl | exact trivial | exact Nat.le_of_ble_eq_true rfl | (simp only [List.length_cons, List.length_nil]; omega)) ?_; conv => whnf) | (refine And.intro ?_ trivial; conv => whnf) | ((with_reducible refine bk_true ?_); conv => whnf) | ((with_reducible refine bk_false ?_); conv => whnf) | (refine ex_get rfl ?_; conv => whnf) | (refine ex_cs rfl rfl ?_; conv => whnf) | ((with_reducible refine bk_nt ?_); conv => whnf) | ((with_reducible refine bk_nf ?_); conv => whnf))))
  exact ret_pf rfl rfl rfl

theorem then_fn (f g : Facts) : PF Try.prog 92 [f.pv, g.pv] (f.then' g).pv := by
  obtain ⟨v, e, s, t⟩ := f
  obtain ⟨v', e', s', t'⟩ := g
  refine pf_intro rf92_eq rmixed rfl ?_
  cases v
  · cases v'
    · cases e
      · cases e'
        · ((conv => whnf) <;> (repeat (first | (refine And.intro (by first | omega | exact rfl | exact trivial | exact Nat.le_of_ble_eq_true rfl | (simp only [List.length_cons, List.length_nil]; omega)) ?_; conv => whnf) | (refine And.intro ?_ trivial; conv => whnf) | ((with_reducible refine bk_true ?_); conv => whnf) | ((with_reducible refine bk_false ?_); conv => whnf) | (refine ex_get rfl ?_; conv => whnf) | (refine ex_cs rfl rfl ?_; conv => whnf) | ((with_reducible refine bk_nt ?_); conv => whnf) | ((with_reducible refine bk_nf ?_); conv => whnf))))
          exact ret_pf rfl rfl rfl
        · ((conv => whnf) <;> (repeat (first | (refine And.intro (by first | omega | exact rfl | exact trivial | exact Nat.le_of_ble_eq_true rfl | (simp only [List.length_cons, List.length_nil]; omega)) ?_; conv => whnf) | (refine And.intro ?_ trivial; conv => whnf) | ((with_reducible refine bk_true ?_); conv => whnf) | ((with_reducible refine bk_false ?_); conv => whnf) | (refine ex_get rfl ?_; conv => whnf) | (refine ex_cs rfl rfl ?_; conv => whnf) | ((with_reducible refine bk_nt ?_); conv => whnf) | ((with_reducible refine bk_nf ?_); conv => whnf))))
          refine vcall_pf (any_fn t' t) rfl rfl ?_
          ((conv => whnf) <;> (repeat (first | (refine And.intro (by first | omega | exact rfl | exact trivial | exact Nat.le_of_ble_eq_true rfl | (simp only [List.length_cons, List.length_nil]; omega)) ?_; conv => whnf) | (refine And.intro ?_ trivial; conv => whnf) | ((with_reducible refine bk_true ?_); conv => whnf) | ((with_reducible refine bk_false ?_); conv => whnf) | (refine ex_get rfl ?_; conv => whnf) | (refine ex_cs rfl rfl ?_; conv => whnf) | ((with_reducible refine bk_nt ?_); conv => whnf) | ((with_reducible refine bk_nf ?_); conv => whnf))))
          exact ret_pf rfl rfl rfl
      · cases e'
        · ((conv => whnf) <;> (repeat (first | (refine And.intro (by first | omega | exact rfl | exact trivial | exact Nat.le_of_ble_eq_true rfl | (simp only [List.length_cons, List.length_nil]; omega)) ?_; conv => whnf) | (refine And.intro ?_ trivial; conv => whnf) | ((with_reducible refine bk_true ?_); conv => whnf) | ((with_reducible refine bk_false ?_); conv => whnf) | (refine ex_get rfl ?_; conv => whnf) | (refine ex_cs rfl rfl ?_; conv => whnf) | ((with_reducible refine bk_nt ?_); conv => whnf) | ((with_reducible refine bk_nf ?_); conv => whnf))))
          refine vcall_pf (any_fn s s') rfl rfl ?_
          ((conv => whnf) <;> (repeat (first | (refine And.intro (by first | omega | exact rfl | exact trivial | exact Nat.le_of_ble_eq_true rfl | (simp only [List.length_cons, List.length_nil]; omega)) ?_; conv => whnf) | (refine And.intro ?_ trivial; conv => whnf) | ((with_reducible refine bk_true ?_); conv => whnf) | ((with_reducible refine bk_false ?_); conv => whnf) | (refine ex_get rfl ?_; conv => whnf) | (refine ex_cs rfl rfl ?_; conv => whnf) | ((with_reducible refine bk_nt ?_); conv => whnf) | ((with_reducible refine bk_nf ?_); conv => whnf))))
          exact ret_pf rfl rfl rfl
        · ((conv => whnf) <;> (repeat (first | (refine And.intro (by first | omega | exact rfl | exact trivial | exact Nat.le_of_ble_eq_true rfl | (simp only [List.length_cons, List.length_nil]; omega)) ?_; conv => whnf) | (refine And.intro ?_ trivial; conv => whnf) | ((with_reducible refine bk_true ?_); conv => whnf) | ((with_reducible refine bk_false ?_); conv => whnf) | (refine ex_get rfl ?_; conv => whnf) | (refine ex_cs rfl rfl ?_; conv => whnf) | ((with_reducible refine bk_nt ?_); conv => whnf) | ((with_reducible refine bk_nf ?_); conv => whnf))))
          refine vcall_pf (any_fn s s') rfl rfl ?_
          ((conv => whnf) <;> (repeat (first | (refine And.intro (by first | omega | exact rfl | exact trivial | exact Nat.le_of_ble_eq_true rfl | (simp only [List.length_cons, List.length_nil]; omega)) ?_; conv => whnf) | (refine And.intro ?_ trivial; conv => whnf) | ((with_reducible refine bk_true ?_); conv => whnf) | ((with_reducible refine bk_false ?_); conv => whnf) | (refine ex_get rfl ?_; conv => whnf) | (refine ex_cs rfl rfl ?_; conv => whnf) | ((with_reducible refine bk_nt ?_); conv => whnf) | ((with_reducible refine bk_nf ?_); conv => whnf))))
          refine vcall_pf (any_fn t' t) rfl rfl ?_
          ((conv => whnf) <;> (repeat (first | (refine And.intro (by first | omega | exact rfl | exact trivial | exact Nat.le_of_ble_eq_true rfl | (simp only [List.length_cons, List.length_nil]; omega)) ?_; conv => whnf) | (refine And.intro ?_ trivial; conv => whnf) | ((with_reducible refine bk_true ?_); conv => whnf) | ((with_reducible refine bk_false ?_); conv => whnf) | (refine ex_get rfl ?_; conv => whnf) | (refine ex_cs rfl rfl ?_; conv => whnf) | ((with_reducible refine bk_nt ?_); conv => whnf) | ((with_reducible refine bk_nf ?_); conv => whnf))))
          exact ret_pf rfl rfl rfl
    · ((conv => whnf) <;> (repeat (first | (refine And.intro (by first | omega | exact rfl | exact trivial | exact Nat.le_of_ble_eq_true rfl | (simp only [List.length_cons, List.length_nil]; omega)) ?_; conv => whnf) | (refine And.intro ?_ trivial; conv => whnf) | ((with_reducible refine bk_true ?_); conv => whnf) | ((with_reducible refine bk_false ?_); conv => whnf) | (refine ex_get rfl ?_; conv => whnf) | (refine ex_cs rfl rfl ?_; conv => whnf) | ((with_reducible refine bk_nt ?_); conv => whnf) | ((with_reducible refine bk_nf ?_); conv => whnf))))
      exact ret_pf rfl rfl rfl
  · ((conv => whnf) <;> (repeat (first | (refine And.intro (by first | omega | exact rfl | exact trivial | exact Nat.le_of_ble_eq_true rfl | (simp only [List.length_cons, List.length_nil]; omega)) ?_; conv => whnf) | (refine And.intro ?_ trivial; conv => whnf) | ((with_reducible refine bk_true ?_); conv => whnf) | ((with_reducible refine bk_false ?_); conv => whnf) | (refine ex_get rfl ?_; conv => whnf) | (refine ex_cs rfl rfl ?_; conv => whnf) | ((with_reducible refine bk_nt ?_); conv => whnf) | ((with_reducible refine bk_nf ?_); conv => whnf))))
    exact ret_pf rfl rfl rfl

set_option maxHeartbeats 4000000 in
theorem or_fn (f g : Facts) : PF Try.prog 93 [f.pv, g.pv] (f.or' g).pv := by
  obtain ⟨v, e, s, t⟩ := f
  obtain ⟨v', e', s', t'⟩ := g
  refine pf_intro rf93_eq rmixed rfl ?_
  cases v <;> cases e
  all_goals
    ((conv => whnf) <;> (repeat (first | (refine And.intro (by first | omega | exact rfl | exact trivial | exact Nat.le_of_ble_eq_true rfl | (simp only [List.length_cons, List.length_nil]; omega)) ?_; conv => whnf) | (refine And.intro ?_ trivial; conv => whnf) | ((with_reducible refine bk_true ?_); conv => whnf) | ((with_reducible refine bk_false ?_); conv => whnf) | (refine ex_get rfl ?_; conv => whnf) | (refine ex_cs rfl rfl ?_; conv => whnf) | ((with_reducible refine bk_nt ?_); conv => whnf) | ((with_reducible refine bk_nf ?_); conv => whnf))))
    refine vcall_pf (any_fn s s') rfl rfl ?_
    ((conv => whnf) <;> (repeat (first | (refine And.intro (by first | omega | exact rfl | exact trivial | exact Nat.le_of_ble_eq_true rfl | (simp only [List.length_cons, List.length_nil]; omega)) ?_; conv => whnf) | (refine And.intro ?_ trivial; conv => whnf) | ((with_reducible refine bk_true ?_); conv => whnf) | ((with_reducible refine bk_false ?_); conv => whnf) | (refine ex_get rfl ?_; conv => whnf) | (refine ex_cs rfl rfl ?_; conv => whnf) | ((with_reducible refine bk_nt ?_); conv => whnf) | ((with_reducible refine bk_nf ?_); conv => whnf))))
    refine vcall_pf (any_fn t t') rfl rfl ?_
    ((conv => whnf) <;> (repeat (first | (refine And.intro (by first | omega | exact rfl | exact trivial | exact Nat.le_of_ble_eq_true rfl | (simp only [List.length_cons, List.length_nil]; omega)) ?_; conv => whnf) | (refine And.intro ?_ trivial; conv => whnf) | ((with_reducible refine bk_true ?_); conv => whnf) | ((with_reducible refine bk_false ?_); conv => whnf) | (refine ex_get rfl ?_; conv => whnf) | (refine ex_cs rfl rfl ?_; conv => whnf) | ((with_reducible refine bk_nt ?_); conv => whnf) | ((with_reducible refine bk_nf ?_); conv => whnf))))
    exact ret_pf rfl rfl rfl

theorem repeated_fn (f : Facts) (lo hi : Int) : PF Try.prog 94 [f.pv, i64 lo, i64 hi] (f.rep lo hi).pv := by
  obtain ⟨v, e, s, t⟩ := f
  by_cases h0 : hi = 0
  · have e0 : Facts.rep ⟨v, e, s, t⟩ lo hi = ⟨false, true, .nil, .nil⟩ := by unfold Facts.rep; rw [if_pos h0]
    rw [e0]
    refine pf_intro rf94_eq rmixed rfl ?_
    ((conv => whnf) <;> (repeat (first | (refine And.intro (by first | omega | exact rfl | exact trivial | exact Nat.le_of_ble_eq_true rfl | (simp only [List.length_cons, List.length_nil]; omega)) ?_; conv => whnf) | (refine And.intro ?_ trivial; conv => whnf) | ((with_reducible refine bk_true ?_); conv => whnf) | ((with_reducible refine bk_false ?_); conv => whnf) | (refine ex_get rfl ?_; conv => whnf) | (refine ex_cs rfl rfl ?_; conv => whnf) | ((with_reducible refine bk_nt ?_); conv => whnf) | ((with_reducible refine bk_nf ?_); conv => whnf))))
    refine bk_is (eqlT h0) ?_
    ((conv => whnf) <;> (repeat (first | (refine And.intro (by first | omega | exact rfl | exact trivial | exact Nat.le_of_ble_eq_true rfl | (simp only [List.length_cons, List.length_nil]; omega)) ?_; conv => whnf) | (refine And.intro ?_ trivial; conv => whnf) | ((with_reducible refine bk_true ?_); conv => whnf) | ((with_reducible refine bk_false ?_); conv => whnf) | (refine ex_get rfl ?_; conv => whnf) | (refine ex_cs rfl rfl ?_; conv => whnf) | ((with_reducible refine bk_nt ?_); conv => whnf) | ((with_reducible refine bk_nf ?_); conv => whnf))))
    exact ret_pf rfl rfl rfl
  cases v
  · have e0 : Facts.rep ⟨false, e, s, t⟩ lo hi = ⟨false, e || intCm .eql lo 0, s, t⟩ := by unfold Facts.rep; rw [if_neg h0]; rfl
    rw [e0]
    refine pf_intro rf94_eq rmixed rfl ?_
    cases e
    · ((conv => whnf) <;> (repeat (first | (refine And.intro (by first | omega | exact rfl | exact trivial | exact Nat.le_of_ble_eq_true rfl | (simp only [List.length_cons, List.length_nil]; omega)) ?_; conv => whnf) | (refine And.intro ?_ trivial; conv => whnf) | ((with_reducible refine bk_true ?_); conv => whnf) | ((with_reducible refine bk_false ?_); conv => whnf) | (refine ex_get rfl ?_; conv => whnf) | (refine ex_cs rfl rfl ?_; conv => whnf) | ((with_reducible refine bk_nt ?_); conv => whnf) | ((with_reducible refine bk_nf ?_); conv => whnf))))
      refine bk_is (eqlF h0) ?_
      ((conv => whnf) <;> (repeat (first | (refine And.intro (by first | omega | exact rfl | exact trivial | exact Nat.le_of_ble_eq_true rfl | (simp only [List.length_cons, List.length_nil]; omega)) ?_; conv => whnf) | (refine And.intro ?_ trivial; conv => whnf) | ((with_reducible refine bk_true ?_); conv => whnf) | ((with_reducible refine bk_false ?_); conv => whnf) | (refine ex_get rfl ?_; conv => whnf) | (refine ex_cs rfl rfl ?_; conv => whnf) | ((with_reducible refine bk_nt ?_); conv => whnf) | ((with_reducible refine bk_nf ?_); conv => whnf))))
      exact ret_pf rfl rfl rfl
    · ((conv => whnf) <;> (repeat (first | (refine And.intro (by first | omega | exact rfl | exact trivial | exact Nat.le_of_ble_eq_true rfl | (simp only [List.length_cons, List.length_nil]; omega)) ?_; conv => whnf) | (refine And.intro ?_ trivial; conv => whnf) | ((with_reducible refine bk_true ?_); conv => whnf) | ((with_reducible refine bk_false ?_); conv => whnf) | (refine ex_get rfl ?_; conv => whnf) | (refine ex_cs rfl rfl ?_; conv => whnf) | ((with_reducible refine bk_nt ?_); conv => whnf) | ((with_reducible refine bk_nf ?_); conv => whnf))))
      refine bk_is (eqlF h0) ?_
      ((conv => whnf) <;> (repeat (first | (refine And.intro (by first | omega | exact rfl | exact trivial | exact Nat.le_of_ble_eq_true rfl | (simp only [List.length_cons, List.length_nil]; omega)) ?_; conv => whnf) | (refine And.intro ?_ trivial; conv => whnf) | ((with_reducible refine bk_true ?_); conv => whnf) | ((with_reducible refine bk_false ?_); conv => whnf) | (refine ex_get rfl ?_; conv => whnf) | (refine ex_cs rfl rfl ?_; conv => whnf) | ((with_reducible refine bk_nt ?_); conv => whnf) | ((with_reducible refine bk_nf ?_); conv => whnf))))
      exact ret_pf rfl rfl rfl
  · have e0 : Facts.rep ⟨true, e, s, t⟩ lo hi = ⟨intCm .gtr lo 0, intCm .eql lo 0, .nil, .nil⟩ := by unfold Facts.rep; rw [if_neg h0]; rfl
    rw [e0]
    refine pf_intro rf94_eq rmixed rfl ?_
    ((conv => whnf) <;> (repeat (first | (refine And.intro (by first | omega | exact rfl | exact trivial | exact Nat.le_of_ble_eq_true rfl | (simp only [List.length_cons, List.length_nil]; omega)) ?_; conv => whnf) | (refine And.intro ?_ trivial; conv => whnf) | ((with_reducible refine bk_true ?_); conv => whnf) | ((with_reducible refine bk_false ?_); conv => whnf) | (refine ex_get rfl ?_; conv => whnf) | (refine ex_cs rfl rfl ?_; conv => whnf) | ((with_reducible refine bk_nt ?_); conv => whnf) | ((with_reducible refine bk_nf ?_); conv => whnf))))
    refine bk_is (eqlF h0) ?_
    ((conv => whnf) <;> (repeat (first | (refine And.intro (by first | omega | exact rfl | exact trivial | exact Nat.le_of_ble_eq_true rfl | (simp only [List.length_cons, List.length_nil]; omega)) ?_; conv => whnf) | (refine And.intro ?_ trivial; conv => whnf) | ((with_reducible refine bk_true ?_); conv => whnf) | ((with_reducible refine bk_false ?_); conv => whnf) | (refine ex_get rfl ?_; conv => whnf) | (refine ex_cs rfl rfl ?_; conv => whnf) | ((with_reducible refine bk_nt ?_); conv => whnf) | ((with_reducible refine bk_nf ?_); conv => whnf))))
    exact ret_pf rfl rfl rfl

end Hk
