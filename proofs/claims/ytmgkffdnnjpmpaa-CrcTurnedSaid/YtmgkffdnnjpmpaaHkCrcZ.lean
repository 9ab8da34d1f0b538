/- The walks of the crc's matrices. -/
import Derived.Test.YtmgkffdnnjpmpaaHkCrcMath
namespace Hk
open Go Go.Proofs
set_option linter.unusedVariables false
set_option maxRecDepth 100000

def mat (m : Nat → BitVec 32) : List PV := (List.range 32).map fun i => u32 (m i)

theorem mat_get (m : Nat → BitVec 32) {i : Nat} (h : i < 32) : (mat m)[i]? = some (u32 (m i)) := by simp [mat, h]

def timesN (m : Nat → BitVec 32) (w : BitVec 32) : Nat → BitVec 32
  | 0 => 0#32
  | k + 1 => timesN m w k ^^^ (m k &&& -((w >>> k) &&& 1#32))

theorem times_fn (m : Nat → BitVec 32) (w : BitVec 32) : RF Try.prog 84 [.ptr 0 32 0 0, .p (u32 w)] [.pr 32 [mat m]] (u32 (timesN m w 32)) := by
  refine fn_intro rf84_eq mixed (F := Fn Try.prog) (fun _ _ _ _ _ h => h) rfl ?_
  ((conv => whnf) <;> (repeat (first | (refine And.intro (by first | omega | rfl) ?_; conv => whnf) | ((with_reducible refine bk_true ?_); conv => whnf) | ((with_reducible refine bk_false ?_); conv => whnf))))
  refine ⟨[], Nat, fun i => ⟨[(0, .ptr 0 32 0 0), (1, .p (u32 w)), (5, .p (u32 (timesN m w i))), (7, .p (i64 i))], [.pr 32 [mat m]]⟩, fun i => i ≤ 32, fun i => 32 - i, ⟨0, by decide, ?_⟩, fun i hi => ?_⟩
  · (refine ⟨⟨rfl, rfl⟩, ?_, ?_⟩ <;> (repeat' (first | exact TLe.nil | exact HLe.nil _ | refine TLe.cons ?_ ?_ | refine HLe.cons ?_ ?_ | exact KLe.ptr rfl | exact KLe.sl rfl (.inl rfl) | exact KLe.csl rfl | refine KLe.pe ?_ | refine BLe.pe ?_ | refine BLe.mx ?_ | exact KLeL.nil | refine KLeL.cons ?_ ?_ | exact KLe.und _ | exact BLe.dead _)) <;> (try with_reducible rfl))
    all_goals first | ((refine congrArg (PV.int IntKind.i64) ?_) <;> (first | rfl | omega | (rw [add64 (by omega) (by omega)]; omega) | (rw [sub64 (by omega) (by omega)]; omega))) | exact rfl
  · have hi : i ≤ 32 := hi
    ((conv => whnf) <;> (repeat (first | (refine And.intro (by first | omega | rfl) ?_; conv => whnf) | ((with_reducible refine bk_true ?_); conv => whnf) | ((with_reducible refine bk_false ?_); conv => whnf))))
    (refine bk_split (fun hb => ?_) (fun hb => ?_))
    · have hb := lss_t hb
      ((conv => whnf) <;> (repeat (first | (refine And.intro (by first | omega | rfl) ?_; conv => whnf) | ((with_reducible refine bk_true ?_); conv => whnf) | ((with_reducible refine bk_false ?_); conv => whnf))))
      refine ⟨_, rfl, u32 (m i), ?_, ?_⟩
      · rw [Nat.zero_add, Nat.mul_one, Int.toNat_natCast, mat_get _ (by omega)]
      ((conv => whnf) <;> (repeat (first | (refine And.intro (by first | omega | rfl) ?_; conv => whnf) | ((with_reducible refine bk_true ?_); conv => whnf) | ((with_reducible refine bk_false ?_); conv => whnf))))
      refine ⟨i + 1, (show i + 1 ≤ 32 by omega), (show 32 - (i + 1) < 32 - i by omega), ?_⟩
      (refine ⟨⟨rfl, rfl⟩, ?_, ?_⟩ <;> (repeat' (first | exact TLe.nil | exact HLe.nil _ | refine TLe.cons ?_ ?_ | refine HLe.cons ?_ ?_ | exact KLe.ptr rfl | exact KLe.sl rfl (.inl rfl) | exact KLe.csl rfl | refine KLe.pe ?_ | refine BLe.pe ?_ | refine BLe.mx ?_ | exact KLeL.nil | refine KLeL.cons ?_ ?_ | exact KLe.und _ | exact BLe.dead _)) <;> (try with_reducible rfl))
      all_goals first | ((refine congrArg (PV.int IntKind.i64) ?_) <;> (first | rfl | omega | (rw [add64 (by omega) (by omega)]; omega) | (rw [sub64 (by omega) (by omega)]; omega))) | skip
      refine congrArg (PV.int .u32) ?_
      rw [u32_shr _ _ (by omega), show (1 : Int) = ((1#32).toNat : Int) from rfl, u32_and, u32_neg, u32_and, u32_xor]
      rfl
    · have hb := lss_f hb
      obtain rfl : i = 32 := by omega
      ((conv => whnf) <;> (repeat (first | (refine And.intro (by first | omega | rfl) ?_; conv => whnf) | ((with_reducible refine bk_true ?_); conv => whnf) | ((with_reducible refine bk_false ?_); conv => whnf))))
      (refine ⟨_, _, ⟨rfl, rfl⟩, ⟨rfl, rfl⟩, KLe.pe ?_, ?_⟩ <;> (repeat' (first | exact HLe.nil _ | refine HLe.cons ?_ ?_ | refine BLe.pe ?_ | exact BLe.dead _)) <;> (try with_reducible rfl))

theorem square_fn (m : Nat → BitVec 32) : RF Try.prog 83 [.ptr 0 32 0 0] [.pr 32 [mat m]] (.agg (mat fun i => timesN m (m i) 32)) := by
  refine fn_intro rf83_eq mixed (F := Fn Try.prog) (fun _ _ _ _ _ h => h) rfl ?_
  ((conv => whnf) <;> (repeat (first | (refine And.intro (by first | omega | rfl) ?_; conv => whnf) | ((with_reducible refine bk_true ?_); conv => whnf) | ((with_reducible refine bk_false ?_); conv => whnf))))
  refine ⟨[], Nat, fun i => ⟨[(0, .ptr 0 32 0 0), (2, .ptr 1 32 0 0), (3, .ptr 2 32 0 0), (5, .p (i64 i))],
    [.pr 32 [mat m], .pr 32 [List.replicate 32 (.int .u32 0)], .pr 32 [upto 32 i (fun i => u32 (timesN m (m i) 32)) (.int .u32 0)]]⟩, fun i => i ≤ 32, fun i => 32 - i, ⟨0, by decide, ?_⟩, fun i hi => ?_⟩
  · (refine ⟨⟨rfl, rfl⟩, ?_, ?_⟩ <;> (repeat' (first | exact TLe.nil | exact HLe.nil _ | refine TLe.cons ?_ ?_ | refine HLe.cons ?_ ?_ | exact KLe.ptr rfl | exact KLe.sl rfl (.inl rfl) | exact KLe.csl rfl | refine KLe.pe ?_ | refine BLe.pe ?_ | refine BLe.mx ?_ | exact KLeL.nil | refine KLeL.cons ?_ ?_ | exact KLe.und _ | exact BLe.dead _)) <;> (try with_reducible rfl))
    all_goals first | ((refine congrArg (PV.int IntKind.i64) ?_) <;> (first | rfl | omega | (rw [add64 (by omega) (by omega)]; omega) | (rw [sub64 (by omega) (by omega)]; omega))) | (rw [upto_zero])
  · have hi : i ≤ 32 := hi
    ((conv => whnf) <;> (repeat (first | (refine And.intro (by first | omega | rfl) ?_; conv => whnf) | ((with_reducible refine bk_true ?_); conv => whnf) | ((with_reducible refine bk_false ?_); conv => whnf))))
    (refine bk_split (fun hb => ?_) (fun hb => ?_))
    · have hb := lss_t hb
      ((conv => whnf) <;> (repeat (first | (refine And.intro (by first | omega | rfl) ?_; conv => whnf) | ((with_reducible refine bk_true ?_); conv => whnf) | ((with_reducible refine bk_false ?_); conv => whnf))))
      refine ⟨_, rfl, u32 (m i), ?_, ?_⟩
      · rw [Nat.zero_add, Nat.mul_one, Int.toNat_natCast, mat_get _ (by omega)]
      ((conv => whnf) <;> (repeat (first | (refine And.intro (by first | omega | rfl) ?_; conv => whnf) | ((with_reducible refine bk_true ?_); conv => whnf) | ((with_reducible refine bk_false ?_); conv => whnf))))
      refine vcall_rd [0] (times_fn m (m i)) rfl rfl (.cons (.ptr rfl) (.cons (.p (.refl _)) .nil)) ?_
      ((conv => whnf) <;> (repeat (first | (refine And.intro (by first | omega | rfl) ?_; conv => whnf) | ((with_reducible refine bk_true ?_); conv => whnf) | ((with_reducible refine bk_false ?_); conv => whnf))))
      refine ⟨_, rfl, rfl, by rw [upto_len]; omega, ?_⟩
      ((conv => whnf) <;> (repeat (first | (refine And.intro (by first | omega | rfl) ?_; conv => whnf) | ((with_reducible refine bk_true ?_); conv => whnf) | ((with_reducible refine bk_false ?_); conv => whnf))))
      refine ⟨i + 1, (show i + 1 ≤ 32 by omega), (show 32 - (i + 1) < 32 - i by omega), ?_⟩
      (refine ⟨⟨rfl, rfl⟩, ?_, ?_⟩ <;> (repeat' (first | exact TLe.nil | exact HLe.nil _ | refine TLe.cons ?_ ?_ | refine HLe.cons ?_ ?_ | exact KLe.ptr rfl | exact KLe.sl rfl (.inl rfl) | exact KLe.csl rfl | refine KLe.pe ?_ | refine BLe.pe ?_ | refine BLe.mx ?_ | exact KLeL.nil | refine KLeL.cons ?_ ?_ | exact KLe.und _ | exact BLe.dead _)) <;> (try with_reducible rfl))
      all_goals first | ((refine congrArg (PV.int IntKind.i64) ?_) <;> (first | rfl | omega | (rw [add64 (by omega) (by omega)]; omega) | (rw [sub64 (by omega) (by omega)]; omega))) | skip
      simp only [List.set_cons_zero, Nat.zero_add, Nat.mul_one, Int.toNat_natCast]
      exact congrArg (fun r => [r]) (upto_set (f := fun i => u32 (timesN m (m i) 32)) (by omega))
    · have hb := lss_f hb
      obtain rfl : i = 32 := by omega
      ((conv => whnf) <;> (repeat (first | (refine And.intro (by first | omega | rfl) ?_; conv => whnf) | ((with_reducible refine bk_true ?_); conv => whnf) | ((with_reducible refine bk_false ?_); conv => whnf))))
      refine ⟨_, rfl, mat fun i => timesN m (m i) 32, by rw [upto_full, List.take_of_length_le (by simp [dropN])]; rfl, by simp [mat], ?_⟩
      ((conv => whnf) <;> (repeat (first | (refine And.intro (by first | omega | rfl) ?_; conv => whnf) | ((with_reducible refine bk_true ?_); conv => whnf) | ((with_reducible refine bk_false ?_); conv => whnf))))
      refine ⟨_, rfl, by simp [mat], by simp, ?_⟩
      ((conv => whnf) <;> (repeat (first | (refine And.intro (by first | omega | rfl) ?_; conv => whnf) | ((with_reducible refine bk_true ?_); conv => whnf) | ((with_reducible refine bk_false ?_); conv => whnf))))
      refine ⟨_, rfl, mat fun i => timesN m (m i) 32, ?_, by simp [mat], ?_⟩
      · show List.take 32 (List.take 0 _ ++ _ ++ List.drop _ _) = _
        rw [List.drop_of_length_le (by simp), List.take_zero, List.nil_append, List.append_nil, List.take_of_length_le (by simp [mat])]
      · ((conv => whnf) <;> (repeat (first | (refine And.intro (by first | omega | rfl) ?_; conv => whnf) | ((with_reducible refine bk_true ?_); conv => whnf) | ((with_reducible refine bk_false ?_); conv => whnf))))
        (refine ⟨_, _, ⟨rfl, rfl⟩, ⟨rfl, rfl⟩, KLe.pe ?_, ?_⟩ <;> (repeat' (first | exact HLe.nil _ | refine HLe.cons ?_ ?_ | refine BLe.pe ?_ | exact BLe.dead _)) <;> (try with_reducible rfl))

end Hk
