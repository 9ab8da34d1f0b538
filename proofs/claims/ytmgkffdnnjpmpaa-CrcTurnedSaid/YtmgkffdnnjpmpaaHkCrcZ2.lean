/- The walks of zeros and Join; what they reckon. -/
import Derived.Test.YtmgkffdnnjpmpaaHkCrcZ
namespace Hk
open Go Go.Proofs
set_option linter.unusedVariables false
set_option linter.unusedSimpArgs false
set_option maxRecDepth 100000

theorem steps_add (n m : Nat) (w : BitVec 32) : steps (n + m) w = steps n (steps m w) := by
  induction n with
  | zero => simp [steps, Nat.repeat]
  | succ n ih =>
    rw [Nat.succ_add]
    show Step (steps (n + m) w) = Step (steps n (steps m w))
    rw [ih]

/-- The bits of a word from the k-th on are gone. -/
def lowBits (w : BitVec 32) (k : Nat) : BitVec 32 := BitVec.ofNat 32 (w.toNat % 2 ^ k)

theorem lowBits_succ (w : BitVec 32) (k : Nat) (hk : k < 32) : lowBits w (k + 1) = lowBits w k ^^^ (if w.getLsbD k then 1#32 <<< k else 0#32) := by
  apply BitVec.eq_of_getLsbD_eq
  intro i hi
  have e : ∀ j, (lowBits w j).getLsbD i = (decide (i < j) && w.getLsbD i) := fun j => by
    unfold lowBits
    rw [BitVec.getLsbD_ofNat, Nat.testBit_mod_two_pow]
    simp [hi]; rfl
  rw [BitVec.getLsbD_xor, e, e]
  by_cases h1 : i < k
  · have : (if w.getLsbD k then 1#32 <<< k else 0#32).getLsbD i = false := by
      split
      · simp [BitVec.getLsbD_shiftLeft, h1]
      · simp
    rw [this]; simp [h1, Nat.lt_succ_of_lt h1]
  · by_cases h2 : i = k
    · subst h2
      have : (if w.getLsbD i then 1#32 <<< i else 0#32).getLsbD i = w.getLsbD i := by
        cases hw : w.getLsbD i
        · simp
        · simp [BitVec.getLsbD_shiftLeft, hi, BitVec.getLsbD_one]
      rw [this]; simp
    · have : (if w.getLsbD k then 1#32 <<< k else 0#32).getLsbD i = false := by
        split
        · simp [BitVec.getLsbD_shiftLeft, h1, hi, BitVec.getLsbD_one]; omega
        · simp
      rw [this]
      have h3 : ¬ i < k + 1 := by omega
      simp [h1, h3]

theorem bit_mask (w : BitVec 32) (k : Nat) : (w >>> k) &&& 1#32 = if w.getLsbD k then 1#32 else 0#32 := by
  apply BitVec.eq_of_getLsbD_eq
  intro i hi
  rw [BitVec.getLsbD_and, BitVec.getLsbD_ushiftRight, BitVec.getLsbD_one]
  by_cases h : i = 0
  · subst h
    cases hw : w.getLsbD k <;> simp [hw]
  · cases hw : w.getLsbD k <;> simp [h]

/-- Of a linear step the matrix does the step. -/
theorem timesN_eq (e : Nat) (w : BitVec 32) : ∀ k, k ≤ 32 → timesN (fun i => steps e (1#32 <<< i)) w k = steps e (lowBits w k)
  | 0, _ => by
    have : lowBits w 0 = 0#32 := by unfold lowBits; rw [Nat.pow_zero, Nat.mod_one]
    rw [this, steps_zero]; rfl
  | k + 1, h => by
    show timesN _ w k ^^^ _ = _
    rw [timesN_eq e w k (by omega), lowBits_succ w k (by omega), steps_xor, bit_mask]
    congr 1
    cases w.getLsbD k
    · simp [steps_zero]
    · simp only [if_true]
      rw [show -(1#32) = BitVec.allOnes 32 from by decide, BitVec.and_allOnes]

theorem times_eq (e : Nat) (w : BitVec 32) : timesN (fun i => steps e (1#32 <<< i)) w 32 = steps e w := by
  rw [timesN_eq e w 32 (Nat.le_refl _)]
  congr 1
  unfold lowBits
  rw [Nat.mod_eq_of_lt w.isLt]
  simp

def matS (e : Nat) : List PV := mat fun i => steps e (1#32 <<< i)

theorem times_fn' (e : Nat) (w : BitVec 32) : RF Try.prog 84 [.ptr 0 32 0 0, .p (u32 w)] [.pr 32 [matS e]] (u32 (steps e w)) := by
  rw [← times_eq]; exact times_fn _ w

theorem square_fn' (e : Nat) : RF Try.prog 83 [.ptr 0 32 0 0] [.pr 32 [matS e]] (.agg (matS (2 * e))) := by
  have h := square_fn fun i => steps e (1#32 <<< i)
  have : (mat fun i => timesN (fun i => steps e (1#32 <<< i)) (steps e (1#32 <<< i)) 32) = matS (2 * e) := by
    unfold matS
    congr 1
    funext i
    rw [times_eq, Nat.two_mul, steps_add]
  rw [this] at h
  exact h

theorem matS_len (e : Nat) : (matS e).length = 32 := by simp [matS, mat]

theorem zeros_fn (w : BitVec 32) (n : Int) (hn : n < 4611686018427387904) : PF Try.prog 63 [u32 w, i64 n] (u32 (steps (8 * n.toNat) w)) := by
  refine pf_intro rf63_eq mixed rfl ?_
  ((conv => whnf) <;> (repeat (first | (refine And.intro (by first | omega | rfl) ?_; conv => whnf) | ((with_reducible refine bk_true ?_); conv => whnf) | ((with_reducible refine bk_false ?_); conv => whnf))))
  refine ⟨[], Nat, fun i => ⟨[(0, .p (u32 w)), (1, .p (i64 n)), (5, .ptr 0 32 0 0), (7, .p (i64 i))], [.pr 32 [upto 32 i (fun i => u32 (step (1#32 <<< i))) (.int .u32 0)]]⟩, fun i => i ≤ 32, fun i => 32 - i, ⟨0, by decide, ?_⟩, fun i hi => ?_⟩
  · (refine ⟨⟨rfl, rfl⟩, ?_, ?_⟩ <;> (repeat' (first | exact TLe.nil | exact HLe.nil _ | refine TLe.cons ?_ ?_ | refine HLe.cons ?_ ?_ | exact KLe.ptr rfl | exact KLe.sl rfl (.inl rfl) | exact KLe.csl rfl | refine KLe.pe ?_ | refine BLe.pe ?_ | refine BLe.mx ?_ | exact KLeL.nil | refine KLeL.cons ?_ ?_ | exact KLe.und _ | exact BLe.dead _)) <;> (try with_reducible rfl))
    all_goals first | ((refine congrArg (PV.int IntKind.i64) ?_) <;> (first | rfl | omega | (rw [add64 (by omega) (by omega)]; omega) | (rw [sub64 (by omega) (by omega)]; omega))) | (rw [upto_zero])
  · have hi : i ≤ 32 := hi
    ((conv => whnf) <;> (repeat (first | (refine And.intro (by first | omega | rfl) ?_; conv => whnf) | ((with_reducible refine bk_true ?_); conv => whnf) | ((with_reducible refine bk_false ?_); conv => whnf))))
    (refine bk_split (fun hb => ?_) (fun hb => ?_))
    · have hb := lss_t hb
      ((conv => whnf) <;> (repeat (first | (refine And.intro (by first | omega | rfl) ?_; conv => whnf) | ((with_reducible refine bk_true ?_); conv => whnf) | ((with_reducible refine bk_false ?_); conv => whnf))))
      refine vcall_pf (step_fn (1#32 <<< i)) rfl ?_ ?_
      · refine congrArg (fun x => [PV.int .u32 x]) ?_
        exact u32_shl 1#32 (i : Int) (by omega)
      ((conv => whnf) <;> (repeat (first | (refine And.intro (by first | omega | rfl) ?_; conv => whnf) | ((with_reducible refine bk_true ?_); conv => whnf) | ((with_reducible refine bk_false ?_); conv => whnf))))
      refine ⟨_, rfl, rfl, by rw [upto_len]; omega, ?_⟩
      ((conv => whnf) <;> (repeat (first | (refine And.intro (by first | omega | rfl) ?_; conv => whnf) | ((with_reducible refine bk_true ?_); conv => whnf) | ((with_reducible refine bk_false ?_); conv => whnf))))
      refine ⟨i + 1, (show i + 1 ≤ 32 by omega), (show 32 - (i + 1) < 32 - i by omega), ?_⟩
      (refine ⟨⟨rfl, rfl⟩, ?_, ?_⟩ <;> (repeat' (first | exact TLe.nil | exact HLe.nil _ | refine TLe.cons ?_ ?_ | refine HLe.cons ?_ ?_ | exact KLe.ptr rfl | exact KLe.sl rfl (.inl rfl) | exact KLe.csl rfl | refine KLe.pe ?_ | refine BLe.pe ?_ | refine BLe.mx ?_ | exact KLeL.nil | refine KLeL.cons ?_ ?_ | exact KLe.und _ | exact BLe.dead _)) <;> (try with_reducible rfl))
      all_goals first | ((refine congrArg (PV.int IntKind.i64) ?_) <;> (first | rfl | omega | (rw [add64 (by omega) (by omega)]; omega) | (rw [sub64 (by omega) (by omega)]; omega))) | skip
      simp only [List.set_cons_zero, Nat.zero_add, Nat.mul_one, Int.toNat_natCast]
      exact congrArg (fun r => [r]) (upto_set (f := fun i => u32 (step (1#32 <<< i))) (by omega))
    · have hb := lss_f hb
      obtain rfl : i = 32 := by omega
      ((conv => whnf) <;> (repeat (first | (refine And.intro (by first | omega | rfl) ?_; conv => whnf) | ((with_reducible refine bk_true ?_); conv => whnf) | ((with_reducible refine bk_false ?_); conv => whnf))))
      have e1 : upto 32 32 (fun i => u32 (step (1#32 <<< i))) (.int .u32 0) = matS 1 := by
        rw [upto_full]
        unfold matS mat
        apply List.map_congr_left
        intro i _
        rw [step_eq]; rfl
      refine ⟨[], Nat, fun j => ⟨[(0, .p (u32 w)), (1, .p (i64 n)), (5, .ptr 0 32 0 0), (16, .p (i64 j))], [.pr 32 [matS (2 ^ j)]]⟩, fun j => j ≤ 3, fun j => 3 - j, ⟨0, by decide, ?_⟩, fun j hj => ?_⟩
      · (refine ⟨⟨rfl, rfl⟩, ?_, ?_⟩ <;> (repeat' (first | exact TLe.nil | exact HLe.nil _ | refine TLe.cons ?_ ?_ | refine HLe.cons ?_ ?_ | exact KLe.ptr rfl | exact KLe.sl rfl (.inl rfl) | exact KLe.csl rfl | refine KLe.pe ?_ | refine BLe.pe ?_ | refine BLe.mx ?_ | exact KLeL.nil | refine KLeL.cons ?_ ?_ | exact KLe.und _ | exact BLe.dead _)) <;> (try with_reducible rfl))
        all_goals first | ((refine congrArg (PV.int IntKind.i64) ?_) <;> (first | rfl | omega | (rw [add64 (by omega) (by omega)]; omega) | (rw [sub64 (by omega) (by omega)]; omega))) | (rw [e1])
      · have hj : j ≤ 3 := hj
        ((conv => whnf) <;> (repeat (first | (refine And.intro (by first | omega | rfl) ?_; conv => whnf) | ((with_reducible refine bk_true ?_); conv => whnf) | ((with_reducible refine bk_false ?_); conv => whnf))))
        (refine bk_split (fun hb => ?_) (fun hb => ?_))
        · have hb := lss_t hb
          ((conv => whnf) <;> (repeat (first | (refine And.intro (by first | omega | rfl) ?_; conv => whnf) | ((with_reducible refine bk_true ?_); conv => whnf) | ((with_reducible refine bk_false ?_); conv => whnf))))
          refine vcall_rd [0] (square_fn' (2 ^ j)) rfl rfl (.cons (.ptr rfl) .nil) ?_
          ((conv => whnf) <;> (repeat (first | (refine And.intro (by first | omega | rfl) ?_; conv => whnf) | ((with_reducible refine bk_true ?_); conv => whnf) | ((with_reducible refine bk_false ?_); conv => whnf))))
          refine ⟨_, rfl, by rw [matS_len], by rw [matS_len]; omega, ?_⟩
          ((conv => whnf) <;> (repeat (first | (refine And.intro (by first | omega | rfl) ?_; conv => whnf) | ((with_reducible refine bk_true ?_); conv => whnf) | ((with_reducible refine bk_false ?_); conv => whnf))))
          refine ⟨j + 1, (show j + 1 ≤ 3 by omega), (show 3 - (j + 1) < 3 - j by omega), ?_⟩
          (refine ⟨⟨rfl, rfl⟩, ?_, ?_⟩ <;> (repeat' (first | exact TLe.nil | exact HLe.nil _ | refine TLe.cons ?_ ?_ | refine HLe.cons ?_ ?_ | exact KLe.ptr rfl | exact KLe.sl rfl (.inl rfl) | exact KLe.csl rfl | refine KLe.pe ?_ | refine BLe.pe ?_ | refine BLe.mx ?_ | exact KLeL.nil | refine KLeL.cons ?_ ?_ | exact KLe.und _ | exact BLe.dead _)) <;> (try with_reducible rfl))
          all_goals first | ((refine congrArg (PV.int IntKind.i64) ?_) <;> (first | rfl | omega | (rw [add64 (by omega) (by omega)]; omega) | (rw [sub64 (by omega) (by omega)]; omega))) | skip
          refine congrArg (fun r => [r]) ?_
          rw [List.drop_of_length_le (by rw [matS_len]; omega), List.take_zero, List.nil_append, List.append_nil, Nat.pow_succ, Nat.mul_comm 2]
        · have hb := lss_f hb
          obtain rfl : j = 3 := by omega
          ((conv => whnf) <;> (repeat (first | (refine And.intro (by first | omega | rfl) ?_; conv => whnf) | ((with_reducible refine bk_true ?_); conv => whnf) | ((with_reducible refine bk_false ?_); conv => whnf))))
          refine ⟨[], BitVec 32 × Int × Nat, fun x => ⟨[(0, .p (u32 x.1)), (1, .p (i64 x.2.1)), (5, .ptr 0 32 0 0)], [.pr 32 [matS x.2.2]]⟩,
            fun x => steps (x.2.2 * x.2.1.toNat) x.1 = steps (8 * n.toNat) w ∧ x.2.1 < 4611686018427387904, fun x => x.2.1.toNat, ⟨(w, n, 8), ⟨rfl, hn⟩, ?_⟩, ?_⟩
          · (refine ⟨⟨rfl, rfl⟩, ?_, ?_⟩ <;> (repeat' (first | exact TLe.nil | exact HLe.nil _ | refine TLe.cons ?_ ?_ | refine HLe.cons ?_ ?_ | exact KLe.ptr rfl | exact KLe.sl rfl (.inl rfl) | exact KLe.csl rfl | refine KLe.pe ?_ | refine BLe.pe ?_ | refine BLe.mx ?_ | exact KLeL.nil | refine KLeL.cons ?_ ?_ | exact KLe.und _ | exact BLe.dead _)) <;> (try with_reducible rfl))
          · rintro ⟨v, k, e⟩ ⟨hx, hk⟩
            simp only at hx hk
            ((conv => whnf) <;> (repeat (first | (refine And.intro (by first | omega | rfl) ?_; conv => whnf) | ((with_reducible refine bk_true ?_); conv => whnf) | ((with_reducible refine bk_false ?_); conv => whnf))))
            (refine bk_split (fun hb => ?_) (fun hb => ?_))
            · have hb : 0 < k := gtr_t hb
              ((conv => whnf) <;> (repeat (first | (refine And.intro (by first | omega | rfl) ?_; conv => whnf) | ((with_reducible refine bk_true ?_); conv => whnf) | ((with_reducible refine bk_false ?_); conv => whnf))))
              rw [and1_64 (n := k) (by omega) (by omega)]
              (refine bk_split (fun hb => ?_) (fun hb => ?_))
              · have hb2 : k % 2 = 1 := eql_t hb
                ((conv => whnf) <;> (repeat (first | (refine And.intro (by first | omega | rfl) ?_; conv => whnf) | ((with_reducible refine bk_true ?_); conv => whnf) | ((with_reducible refine bk_false ?_); conv => whnf))))
                refine vcall_rd [0] (times_fn' e v) rfl rfl (.cons (.ptr rfl) (.cons (.p (.refl _)) .nil)) ?_
                ((conv => whnf) <;> (repeat (first | (refine And.intro (by first | omega | rfl) ?_; conv => whnf) | ((with_reducible refine bk_true ?_); conv => whnf) | ((with_reducible refine bk_false ?_); conv => whnf))))
                refine vcall_rd [0] (square_fn' e) rfl rfl (.cons (.ptr rfl) .nil) ?_
                ((conv => whnf) <;> (repeat (first | (refine And.intro (by first | omega | rfl) ?_; conv => whnf) | ((with_reducible refine bk_true ?_); conv => whnf) | ((with_reducible refine bk_false ?_); conv => whnf))))
                refine ⟨_, rfl, by rw [matS_len], by rw [matS_len]; omega, ?_⟩
                ((conv => whnf) <;> (repeat (first | (refine And.intro (by first | omega | rfl) ?_; conv => whnf) | ((with_reducible refine bk_true ?_); conv => whnf) | ((with_reducible refine bk_false ?_); conv => whnf))))
                refine ⟨(steps e v, k / 2, 2 * e), ⟨?_, ?_⟩, ?_, ?_⟩
                · show steps (2 * e * (k / 2).toNat) (steps e v) = _
                  rw [← hx, ← steps_add]
                  congr 1
                  have : k.toNat = 2 * (k / 2).toNat + 1 := by omega
                  rw [this, Nat.mul_add, Nat.mul_one, Nat.mul_comm 2 e, Nat.mul_assoc]
                · show k / 2 < _; omega
                · show (k / 2).toNat < k.toNat; omega
                · (refine ⟨⟨rfl, rfl⟩, ?_, ?_⟩ <;> (repeat' (first | exact TLe.nil | exact HLe.nil _ | refine TLe.cons ?_ ?_ | refine HLe.cons ?_ ?_ | exact KLe.ptr rfl | exact KLe.sl rfl (.inl rfl) | exact KLe.csl rfl | refine KLe.pe ?_ | refine BLe.pe ?_ | refine BLe.mx ?_ | exact KLeL.nil | refine KLeL.cons ?_ ?_ | exact KLe.und _ | exact BLe.dead _)) <;> (try with_reducible rfl))
                  all_goals first | exact congrArg (PV.int .i64) shr1_64 | skip
                  refine congrArg (fun r => [r]) ?_
                  rw [List.drop_of_length_le (by rw [matS_len]; omega), List.take_zero, List.nil_append, List.append_nil]
              · have hb2 : k % 2 ≠ 1 := eql_f hb
                ((conv => whnf) <;> (repeat (first | (refine And.intro (by first | omega | rfl) ?_; conv => whnf) | ((with_reducible refine bk_true ?_); conv => whnf) | ((with_reducible refine bk_false ?_); conv => whnf))))
                refine vcall_rd [0] (square_fn' e) rfl rfl (.cons (.ptr rfl) .nil) ?_
                ((conv => whnf) <;> (repeat (first | (refine And.intro (by first | omega | rfl) ?_; conv => whnf) | ((with_reducible refine bk_true ?_); conv => whnf) | ((with_reducible refine bk_false ?_); conv => whnf))))
                refine ⟨_, rfl, by rw [matS_len], by rw [matS_len]; omega, ?_⟩
                ((conv => whnf) <;> (repeat (first | (refine And.intro (by first | omega | rfl) ?_; conv => whnf) | ((with_reducible refine bk_true ?_); conv => whnf) | ((with_reducible refine bk_false ?_); conv => whnf))))
                refine ⟨(v, k / 2, 2 * e), ⟨?_, ?_⟩, ?_, ?_⟩
                · show steps (2 * e * (k / 2).toNat) v = _
                  rw [← hx]
                  congr 1
                  have : k.toNat = 2 * (k / 2).toNat := by omega
                  rw [this, Nat.mul_comm 2 e, Nat.mul_assoc]
                · show k / 2 < _; omega
                · show (k / 2).toNat < k.toNat; omega
                · (refine ⟨⟨rfl, rfl⟩, ?_, ?_⟩ <;> (repeat' (first | exact TLe.nil | exact HLe.nil _ | refine TLe.cons ?_ ?_ | refine HLe.cons ?_ ?_ | exact KLe.ptr rfl | exact KLe.sl rfl (.inl rfl) | exact KLe.csl rfl | refine KLe.pe ?_ | refine BLe.pe ?_ | refine BLe.mx ?_ | exact KLeL.nil | refine KLeL.cons ?_ ?_ | exact KLe.und _ | exact BLe.dead _)) <;> (try with_reducible rfl))
                  all_goals first | exact congrArg (PV.int .i64) shr1_64 | skip
                  refine congrArg (fun r => [r]) ?_
                  rw [List.drop_of_length_le (by rw [matS_len]; omega), List.take_zero, List.nil_append, List.append_nil]
            · have hb : k ≤ 0 := gtr_f hb
              ((conv => whnf) <;> (repeat (first | (refine And.intro (by first | omega | rfl) ?_; conv => whnf) | ((with_reducible refine bk_true ?_); conv => whnf) | ((with_reducible refine bk_false ?_); conv => whnf))))
              refine ret_pf rfl rfl ?_
              have : k.toNat = 0 := by omega
              rw [this, Nat.mul_zero] at hx
              rw [← hx]
              rfl

theorem Join_fn (a b : BitVec 32) (n : Int) (hn : n < 4611686018427387904) : PF Try.prog 25 [u32 a, u32 b, i64 n] (u32 (steps (8 * n.toNat) a ^^^ b)) := by
  refine pf_intro rf25_eq mixed rfl ?_
  ((conv => whnf) <;> (repeat (first | (refine And.intro (by first | omega | rfl) ?_; conv => whnf) | ((with_reducible refine bk_true ?_); conv => whnf) | ((with_reducible refine bk_false ?_); conv => whnf))))
  refine vcall_pf (zeros_fn a n hn) rfl rfl ?_
  ((conv => whnf) <;> (repeat (first | (refine And.intro (by first | omega | rfl) ?_; conv => whnf) | ((with_reducible refine bk_true ?_); conv => whnf) | ((with_reducible refine bk_false ?_); conv => whnf))))
  refine ret_pf rfl rfl ?_
  exact congrArg (PV.int .u32) (u32_xor _ _)

end Hk
