/- The walk of the law CrcRaw. -/
import Derived.Test.YtmgkffdnnjpmpaaHkCrcLaw2
namespace Hk
open Go Go.Proofs
set_option linter.unusedVariables false
set_option linter.unusedSimpArgs false
set_option maxRecDepth 100000

theorem raw_eq (a b : BitVec 32) (zs : List UInt8) : (~~~ fold (~~~a) zs ^^^ b) ^^^ ~~~ fold (~~~0#32) zs = steps (8 * zs.length) a ^^^ b := by
  have h := fold_start zs (~~~0#32) (~~~a)
  rw [not_zero_xor, BitVec.not_not] at h
  rw [h, not_xor]
  generalize ~~~fold (~~~0#32) zs = x
  generalize steps (8 * zs.length) a = y
  apply BitVec.eq_of_getLsbD_eq
  intro i _
  simp only [BitVec.getLsbD_xor]
  cases x.getLsbD i <;> cases y.getLsbD i <;> cases b.getLsbD i <;> rfl

theorem CrcRaw_fn (a b : BitVec 32) (n : Int) : PF Try.prog 8 [u32 a, u32 b, i64 n] (.b true) := by
  have e : ∀ n : Int, intCm .eql n n = true := fun n => by simp [intCm]
  have z : ∀ k : Nat, List.replicate k [PV.int .u8 0] = (List.replicate k (0 : UInt8)).map encByte := fun k => by simp [encByte]
  refine pf_intro rf8_eq mixed rfl ?_
  ((conv => whnf) <;> (repeat (first | (refine And.intro (by first | omega | rfl) ?_; conv => whnf) | ((with_reducible refine bk_true ?_); conv => whnf) | ((with_reducible refine bk_false ?_); conv => whnf))))
  refine vcall_pf alive_fn rfl rfl ?_
  ((conv => whnf) <;> (repeat (first | (refine And.intro (by first | omega | rfl) ?_; conv => whnf) | ((with_reducible refine bk_true ?_); conv => whnf) | ((with_reducible refine bk_false ?_); conv => whnf))))
  refine bk_false ?_
  ((conv => whnf) <;> (repeat (first | (refine And.intro (by first | omega | rfl) ?_; conv => whnf) | ((with_reducible refine bk_true ?_); conv => whnf) | ((with_reducible refine bk_false ?_); conv => whnf))))
  (refine bk_split (fun hb => ?_) (fun hb => ?_))
  · ((conv => whnf) <;> (repeat (first | (refine And.intro (by first | omega | rfl) ?_; conv => whnf) | ((with_reducible refine bk_true ?_); conv => whnf) | ((with_reducible refine bk_false ?_); conv => whnf))))
    exact ret_pf rfl rfl rfl
  · have h1 : n ≤ 5000 := gtr_f hb
    ((conv => whnf) <;> (repeat (first | (refine And.intro (by first | omega | rfl) ?_; conv => whnf) | ((with_reducible refine bk_true ?_); conv => whnf) | ((with_reducible refine bk_false ?_); conv => whnf))))
    (refine bk_split (fun hb => ?_) (fun hb => ?_))
    · have h2 : 0 < n := gtr_t hb
      have hl : (List.replicate n.toNat (0 : UInt8)).length < 4611686018427387904 := by simp; omega
      ((conv => whnf) <;> (repeat (first | (refine And.intro (by first | omega | rfl) ?_; conv => whnf) | ((with_reducible refine bk_true ?_); conv => whnf) | ((with_reducible refine bk_false ?_); conv => whnf))))
      refine And.intro (by unfold roomMost; omega) ?_
      ((conv => whnf) <;> (repeat (first | (refine And.intro (by first | omega | rfl) ?_; conv => whnf) | ((with_reducible refine bk_true ?_); conv => whnf) | ((with_reducible refine bk_false ?_); conv => whnf))))
      refine ⟨List.replicate n.toNat [PV.int .u8 0], by rw [List.take_of_length_le (by simp [dropN])]; rfl, by simp, List.replicate n.toNat 0, z _, ?_⟩
      ((conv => whnf) <;> (repeat (first | (refine And.intro (by first | omega | rfl) ?_; conv => whnf) | ((with_reducible refine bk_true ?_); conv => whnf) | ((with_reducible refine bk_false ?_); conv => whnf))))
      refine vcall_pf (Join_fn a b n (by omega)) rfl rfl ?_
      ((conv => whnf) <;> (repeat (first | (refine And.intro (by first | omega | rfl) ?_; conv => whnf) | ((with_reducible refine bk_true ?_); conv => whnf) | ((with_reducible refine bk_false ?_); conv => whnf))))
      refine vcall_pf (RefMore_fn a _ hl) rfl rfl ?_
      ((conv => whnf) <;> (repeat (first | (refine And.intro (by first | omega | rfl) ?_; conv => whnf) | ((with_reducible refine bk_true ?_); conv => whnf) | ((with_reducible refine bk_false ?_); conv => whnf))))
      refine vcall_pf (RefSum_fn _ hl) rfl rfl ?_
      ((conv => whnf) <;> (repeat (first | (refine And.intro (by first | omega | rfl) ?_; conv => whnf) | ((with_reducible refine bk_true ?_); conv => whnf) | ((with_reducible refine bk_false ?_); conv => whnf))))
      refine ret_pf rfl rfl ?_
      rw [u32_xor, u32_xor]
      have := raw_eq a b (List.replicate n.toNat 0)
      rw [List.length_replicate] at this
      show PV.b (intCm .eql _ (((~~~ fold (~~~a) (List.replicate n.toNat 0) ^^^ b) ^^^ ~~~ fold (~~~0#32) (List.replicate n.toNat 0)).toNat : Int)) = _
      rw [this, e]
    · have h2 : n ≤ 0 := gtr_f hb
      ((conv => whnf) <;> (repeat (first | (refine And.intro (by first | omega | rfl) ?_; conv => whnf) | ((with_reducible refine bk_true ?_); conv => whnf) | ((with_reducible refine bk_false ?_); conv => whnf))))
      refine vcall_pf (Join_fn a b n (by omega)) rfl rfl ?_
      ((conv => whnf) <;> (repeat (first | (refine And.intro (by first | omega | rfl) ?_; conv => whnf) | ((with_reducible refine bk_true ?_); conv => whnf) | ((with_reducible refine bk_false ?_); conv => whnf))))
      refine vcall_pf (RefMore_fn a [] (by decide)) rfl rfl ?_
      ((conv => whnf) <;> (repeat (first | (refine And.intro (by first | omega | rfl) ?_; conv => whnf) | ((with_reducible refine bk_true ?_); conv => whnf) | ((with_reducible refine bk_false ?_); conv => whnf))))
      refine vcall_pf (RefSum_fn [] (by decide)) rfl rfl ?_
      ((conv => whnf) <;> (repeat (first | (refine And.intro (by first | omega | rfl) ?_; conv => whnf) | ((with_reducible refine bk_true ?_); conv => whnf) | ((with_reducible refine bk_false ?_); conv => whnf))))
      refine ret_pf rfl rfl ?_
      rw [u32_xor, u32_xor]
      have := raw_eq a b []
      have h0 : n.toNat = 0 := by omega
      rw [h0]
      show PV.b (intCm .eql _ (((~~~ fold (~~~a) [] ^^^ b) ^^^ ~~~ fold (~~~0#32) []).toNat : Int)) = _
      rw [this]
      exact congrArg PV.b (e _)

end Hk
