/- The walk of the law CrcTurned. -/
import Derived.Test.YtmgkffdnnjpmpaaHkCrcTurn2
namespace Hk
open Go Go.Proofs
set_option linter.unusedVariables false
set_option linter.unusedSimpArgs false
set_option maxRecDepth 100000

theorem CrcTurned_fn (s : List UInt8) (k : Int) (y : Nat → UInt8) : PF Try.prog 4 [.str s, i64 k, .agg [.int .u8 (y 0).toNat, .int .u8 (y 1).toNat, .int .u8 (y 2).toNat, .int .u8 (y 3).toNat]] (.b true) := by
  refine pf_intro rf4_eq mixed rfl ?_
  ((conv => whnf) <;> (repeat (first | (refine And.intro (by first | omega | exact rfl) ?_; conv => whnf) | ((with_reducible refine bk_true ?_); conv => whnf) | ((with_reducible refine bk_false ?_); conv => whnf))))
  refine vcall_pf alive_fn rfl rfl ?_
  ((conv => whnf) <;> (repeat (first | (refine And.intro (by first | omega | exact rfl) ?_; conv => whnf) | ((with_reducible refine bk_true ?_); conv => whnf) | ((with_reducible refine bk_false ?_); conv => whnf))))
  refine bk_false ?_
  ((conv => whnf) <;> (repeat (first | (refine And.intro (by first | omega | exact rfl) ?_; conv => whnf) | ((with_reducible refine bk_true ?_); conv => whnf) | ((with_reducible refine bk_false ?_); conv => whnf))))
  (refine bk_split (fun hb => ?_) (fun hb => ?_))
  · ((conv => whnf) <;> (repeat (first | (refine And.intro (by first | omega | exact rfl) ?_; conv => whnf) | ((with_reducible refine bk_true ?_); conv => whnf) | ((with_reducible refine bk_false ?_); conv => whnf))))
    exact ret_pf rfl rfl rfl
  · have h1 : (s.length : Int) ≤ 2000 := gtr_f hb
    ((conv => whnf) <;> (repeat (first | (refine And.intro (by first | omega | exact rfl) ?_; conv => whnf) | ((with_reducible refine bk_true ?_); conv => whnf) | ((with_reducible refine bk_false ?_); conv => whnf))))
    (refine bk_split (fun hb => ?_) (fun hb => ?_))
    · ((conv => whnf) <;> (repeat (first | (refine And.intro (by first | omega | exact rfl) ?_; conv => whnf) | ((with_reducible refine bk_true ?_); conv => whnf) | ((with_reducible refine bk_false ?_); conv => whnf))))
      exact ret_pf rfl rfl rfl
    · have h2 : 0 ≤ k := lss_f hb
      ((conv => whnf) <;> (repeat (first | (refine And.intro (by first | omega | exact rfl) ?_; conv => whnf) | ((with_reducible refine bk_true ?_); conv => whnf) | ((with_reducible refine bk_false ?_); conv => whnf))))
      (refine bk_split (fun hb => ?_) (fun hb => ?_))
      · ((conv => whnf) <;> (repeat (first | (refine And.intro (by first | omega | exact rfl) ?_; conv => whnf) | ((with_reducible refine bk_true ?_); conv => whnf) | ((with_reducible refine bk_false ?_); conv => whnf))))
        exact ret_pf rfl rfl rfl
      · have h3 := gtr_f hb
        rw [sub64 (by omega) (by omega)] at h3
        ((conv => whnf) <;> (repeat (first | (refine And.intro (by first | omega | exact rfl) ?_; conv => whnf) | ((with_reducible refine bk_true ?_); conv => whnf) | ((with_reducible refine bk_false ?_); conv => whnf))))
        refine ⟨[], Nat, fun i => ⟨[(0, .p (.str s)), (1, .p (i64 k)), (5, .ptr 0 4 0 0), (7, .sl 1 1 0 s.length none), (8, .p (i64 i))],
          [.pr 4 [[.int .u8 (y 0).toNat, .int .u8 (y 1).toNat, .int .u8 (y 2).toNat, .int .u8 (y 3).toNat]], .pr 1 ((turn s k.toNat y i).map encByte)]⟩, fun i => i ≤ 4, fun i => 4 - i, ⟨0, by decide, ?_⟩, fun i hi => ?_⟩
        · (refine ⟨⟨rfl, rfl⟩, ?_, ?_⟩ <;> (repeat' (first | exact TLe.nil | exact HLe.nil _ | refine TLe.cons ?_ ?_ | refine HLe.cons ?_ ?_ | exact KLe.ptr rfl | exact KLe.sl rfl (.inl rfl) | exact KLe.csl rfl | refine KLe.pe ?_ | refine BLe.pe ?_ | refine BLe.mx ?_ | exact KLeL.nil | refine KLeL.cons ?_ ?_ | exact KLe.und _ | exact BLe.dead _)) <;> (try with_reducible rfl))
          all_goals first | ((refine congrArg (PV.int IntKind.i64) ?_) <;> (first | rfl | omega | (rw [add64 (by omega) (by omega)]; omega) | (rw [sub64 (by omega) (by omega)]; omega))) | exact rfl
        · have hi : i ≤ 4 := hi
          ((conv => whnf) <;> (repeat (first | (refine And.intro (by first | omega | exact rfl) ?_; conv => whnf) | ((with_reducible refine bk_true ?_); conv => whnf) | ((with_reducible refine bk_false ?_); conv => whnf))))
          (refine bk_split (fun hb => ?_) (fun hb => ?_))
          · have hb : (i : Int) < 4 := lss_t hb
            ((conv => whnf) <;> (repeat (first | (refine And.intro (by first | omega | exact rfl) ?_; conv => whnf) | ((with_reducible refine bk_true ?_); conv => whnf) | ((with_reducible refine bk_false ?_); conv => whnf))))
            have ek : intAr .add .i64 k (i : Int) = k + i := add64 (by omega) (by omega)
            have ekn : (k + (i : Int)).toNat = k.toNat + i := by omega
            have hlt : k.toNat + i < (turn s k.toNat y i).length := by rw [turn_len]; omega
            have hget : ((turn s k.toNat y i).map encByte)[k.toNat + i]? = some (encByte ((turn s k.toNat y i).getD (k.toNat + i) 0)) := by
              rw [List.getElem?_map, List.getElem?_eq_getElem hlt]; simp [hlt]
            rw [ek]
            refine And.intro (by omega) ?_
            ((conv => whnf) <;> (repeat (first | (refine And.intro (by first | omega | exact rfl) ?_; conv => whnf) | ((with_reducible refine bk_true ?_); conv => whnf) | ((with_reducible refine bk_false ?_); conv => whnf))))
            refine ⟨_, by rw [Nat.zero_add, ekn]; exact hget, _, rfl, ?_⟩
            ((conv => whnf) <;> (repeat (first | (refine And.intro (by first | omega | exact rfl) ?_; conv => whnf) | ((with_reducible refine bk_true ?_); conv => whnf) | ((with_reducible refine bk_false ?_); conv => whnf))))
            refine ⟨_, rfl, .int .u8 (y i).toNat, ?_, ?_⟩
            · match i, hb with
              | 0, _ => rfl
              | 1, _ => rfl
              | 2, _ => rfl
              | 3, _ => rfl
            ((conv => whnf) <;> (repeat (first | (refine And.intro (by first | omega | exact rfl) ?_; conv => whnf) | ((with_reducible refine bk_true ?_); conv => whnf) | ((with_reducible refine bk_false ?_); conv => whnf))))
            refine And.intro ?_ trivial
            ((conv => whnf) <;> (repeat (first | (refine And.intro (by first | omega | exact rfl) ?_; conv => whnf) | ((with_reducible refine bk_true ?_); conv => whnf) | ((with_reducible refine bk_false ?_); conv => whnf))))
            refine ⟨_, by rw [Nat.zero_add, ekn]; exact hget, rfl, Nat.le_refl _, ?_⟩
            ((conv => whnf) <;> (repeat (first | (refine And.intro (by first | omega | exact rfl) ?_; conv => whnf) | ((with_reducible refine bk_true ?_); conv => whnf) | ((with_reducible refine bk_false ?_); conv => whnf))))
            refine ⟨i + 1, (show i + 1 ≤ 4 by omega), (show 4 - (i + 1) < 4 - i by omega), ?_⟩
            (refine ⟨⟨rfl, rfl⟩, ?_, ?_⟩ <;> (repeat' (first | exact TLe.nil | exact HLe.nil _ | refine TLe.cons ?_ ?_ | refine HLe.cons ?_ ?_ | exact KLe.ptr rfl | exact KLe.sl rfl (.inl rfl) | exact KLe.csl rfl | refine KLe.pe ?_ | refine BLe.pe ?_ | refine BLe.mx ?_ | exact KLeL.nil | refine KLeL.cons ?_ ?_ | exact KLe.und _ | exact BLe.dead _)) <;> (try with_reducible rfl))
            all_goals first | ((refine congrArg (PV.int IntKind.i64) ?_) <;> (first | rfl | omega | (rw [add64 (by omega) (by omega)]; omega) | (rw [sub64 (by omega) (by omega)]; omega))) | skip
            rw [Nat.zero_add, ekn]
            show List.set _ _ [PV.int .u8 _] = List.map encByte (List.set _ _ _)
            rw [List.map_set]
            refine congrArg (List.set _ _) ?_
            refine congrArg (fun x => [PV.int .u8 x]) ?_
            exact u8_xor _ _
          · have hb : 4 ≤ (i : Int) := lss_f hb
            obtain rfl : i = 4 := by omega
            ((conv => whnf) <;> (repeat (first | (refine And.intro (by first | omega | exact rfl) ?_; conv => whnf) | ((with_reducible refine bk_true ?_); conv => whnf) | ((with_reducible refine bk_false ?_); conv => whnf))))
            refine ⟨(turn s k.toNat y 4).map encByte, ?_, by simp [turn_len], turn s k.toNat y 4, rfl, ?_⟩
            · rw [List.take_of_length_le (by simp [turn_len, dropN])]; rfl
            ((conv => whnf) <;> (repeat (first | (refine And.intro (by first | omega | exact rfl) ?_; conv => whnf) | ((with_reducible refine bk_true ?_); conv => whnf) | ((with_reducible refine bk_false ?_); conv => whnf))))
            refine ⟨_, rfl, _, rfl, rfl, ?_⟩
            ((conv => whnf) <;> (repeat (first | (refine And.intro (by first | omega | exact rfl) ?_; conv => whnf) | ((with_reducible refine bk_true ?_); conv => whnf) | ((with_reducible refine bk_false ?_); conv => whnf))))
            refine And.intro (by exact True.intro) ?_
            ((conv => whnf) <;> (repeat (first | (refine And.intro (by first | omega | exact rfl) ?_; conv => whnf) | ((with_reducible refine bk_true ?_); conv => whnf) | ((with_reducible refine bk_false ?_); conv => whnf))))
            refine And.intro ?_ trivial
            refine vcall_pf (Sum_fn' (turn s k.toNat y 4) (by rw [turn_len]; omega)) rfl rfl ?_
            ((conv => whnf) <;> (repeat (first | (refine And.intro (by first | omega | exact rfl) ?_; conv => whnf) | ((with_reducible refine bk_true ?_); conv => whnf) | ((with_reducible refine bk_false ?_); conv => whnf))))
            refine And.intro ?_ trivial
            refine vcall_pf (Sum_fn' s (by omega)) rfl rfl ?_
            ((conv => whnf) <;> (repeat (first | (refine And.intro (by first | omega | exact rfl) ?_; conv => whnf) | ((with_reducible refine bk_true ?_); conv => whnf) | ((with_reducible refine bk_false ?_); conv => whnf))))
            refine ret_pf rfl rfl ?_
            refine congrArg PV.b ?_
            show (intCm .eql _ _ == ((((y 0).toNat : Int) == 0) && ((((y 1).toNat : Int) == 0) && ((((y 2).toNat : Int) == 0) && ((((y 3).toNat : Int) == 0) && true))))) = true
            rw [eql_u32]
            have hiff := turned_iff s k.toNat y (by omega)
            have hz : ∀ c : UInt8, w32 c = 0#32 ↔ (c.toNat : Int) = 0 := fun c => by
              have e : (w32 c).toNat = c.toNat := by
                unfold w32
                rw [BitVec.toNat_setWidth]
                have := c.toBitVec.isLt
                show c.toBitVec.toNat % 2 ^ 32 = c.toBitVec.toNat
                omega
              refine ⟨fun h => ?_, fun h => BitVec.eq_of_toNat_eq (by rw [e]; show c.toNat = 0; omega)⟩
              rw [h] at e
              have : c.toNat = 0 := e.symm
              omega
            rw [hz, hz, hz, hz] at hiff
            by_cases h : crcSum (turn s k.toNat y 4) = crcSum s
            · obtain ⟨z0, z1, z2, z3⟩ := hiff.1 h
              rw [decide_eq_true h, z0, z1, z2, z3]
              rfl
            · rw [decide_eq_false h]
              cases hb : ((((y 0).toNat : Int) == 0) && ((((y 1).toNat : Int) == 0) && ((((y 2).toNat : Int) == 0) && ((((y 3).toNat : Int) == 0) && true)))) with
              | false => rfl
              | true =>
                simp only [Bool.and_eq_true, beq_iff_eq] at hb
                exact absurd (hiff.2 ⟨hb.1, hb.2.1, hb.2.2.1, hb.2.2.2.1⟩) h

end Hk
