/- The walks of the laws CrcTable and CrcSums. -/
import Derived.Test.YtmgkffdnnjpmpaaHkCrcMath
namespace Hk
open Go Go.Proofs
set_option linter.unusedVariables false
set_option maxRecDepth 100000

theorem alive_fn : PF Try.prog 16 [] (.b true) := by
  refine pf_intro rf16_eq mixed rfl ?_
  ((conv => whnf) <;> (repeat (first | (refine And.intro (by first | omega | rfl) ?_; conv => whnf) | ((with_reducible refine bk_true ?_); conv => whnf) | ((with_reducible refine bk_false ?_); conv => whnf))))
  refine vcall_pf (Sum_fn [49, 50, 51, 52, 53, 54, 55, 56, 57] (by decide)) rfl rfl ?_
  rw [alive_eq]
  ((conv => whnf) <;> (repeat (first | (refine And.intro (by first | omega | rfl) ?_; conv => whnf) | ((with_reducible refine bk_true ?_); conv => whnf) | ((with_reducible refine bk_false ?_); conv => whnf))))
  refine bk_true ?_
  ((conv => whnf) <;> (repeat (first | (refine And.intro (by first | omega | rfl) ?_; conv => whnf) | ((with_reducible refine bk_true ?_); conv => whnf) | ((with_reducible refine bk_false ?_); conv => whnf))))
  refine vcall_pf (Sum_fn [] (by decide)) rfl rfl ?_
  ((conv => whnf) <;> (repeat (first | (refine And.intro (by first | omega | rfl) ?_; conv => whnf) | ((with_reducible refine bk_true ?_); conv => whnf) | ((with_reducible refine bk_false ?_); conv => whnf))))
  exact ret_pf rfl rfl rfl

theorem CrcTable_fn : PF Try.prog 3 [] (.b true) := by
  refine pf_intro rf3_eq mixed rfl ?_
  ((conv => whnf) <;> (repeat (first | (refine And.intro (by first | omega | rfl) ?_; conv => whnf) | ((with_reducible refine bk_true ?_); conv => whnf) | ((with_reducible refine bk_false ?_); conv => whnf))))
  refine vcall_pf alive_fn rfl rfl ?_
  ((conv => whnf) <;> (repeat (first | (refine And.intro (by first | omega | rfl) ?_; conv => whnf) | ((with_reducible refine bk_true ?_); conv => whnf) | ((with_reducible refine bk_false ?_); conv => whnf))))
  refine bk_false ?_
  ((conv => whnf) <;> (repeat (first | (refine And.intro (by first | omega | rfl) ?_; conv => whnf) | ((with_reducible refine bk_true ?_); conv => whnf) | ((with_reducible refine bk_false ?_); conv => whnf))))
  refine vcall_pf Table_fn rfl rfl ?_
  ((conv => whnf) <;> (repeat (first | (refine And.intro (by first | omega | rfl) ?_; conv => whnf) | ((with_reducible refine bk_true ?_); conv => whnf) | ((with_reducible refine bk_false ?_); conv => whnf))))
  refine ⟨_, rfl, by simp, by simp, ?_⟩
  ((conv => whnf) <;> (repeat (first | (refine And.intro (by first | omega | rfl) ?_; conv => whnf) | ((with_reducible refine bk_true ?_); conv => whnf) | ((with_reducible refine bk_false ?_); conv => whnf))))
  refine ⟨[], Nat, fun i => ⟨[(1, .ptr 0 256 0 0), (2, .p (i64 i))], [.pr 256 [(List.range 256).map fun i => u32 (word i)]]⟩, fun i => i ≤ 256, fun i => 256 - i, ⟨0, by decide, ?_⟩, fun i hi => ?_⟩
  · (refine ⟨⟨rfl, rfl⟩, ?_, ?_⟩ <;> (repeat' (first | exact TLe.nil | exact HLe.nil _ | refine TLe.cons ?_ ?_ | refine HLe.cons ?_ ?_ | exact KLe.ptr rfl | exact KLe.sl rfl (.inl rfl) | exact KLe.csl rfl | refine KLe.pe ?_ | refine BLe.pe ?_ | refine BLe.mx ?_ | exact KLeL.nil | refine KLeL.cons ?_ ?_ | exact KLe.und _ | exact BLe.dead _)) <;> (try with_reducible rfl))
    all_goals first | ((refine congrArg (PV.int IntKind.i64) ?_) <;> (first | rfl | omega | (rw [add64 (by omega) (by omega)]; omega) | (rw [sub64 (by omega) (by omega)]; omega))) | skip
    refine congrArg (fun r => [r]) ?_
    rw [List.drop_of_length_le (by simp), List.take_zero, List.nil_append, List.append_nil]
  · have hi : i ≤ 256 := hi
    ((conv => whnf) <;> (repeat (first | (refine And.intro (by first | omega | rfl) ?_; conv => whnf) | ((with_reducible refine bk_true ?_); conv => whnf) | ((with_reducible refine bk_false ?_); conv => whnf))))
    (refine bk_split (fun hb => ?_) (fun hb => ?_))
    · have hb := lss_t hb
      ((conv => whnf) <;> (repeat (first | (refine And.intro (by first | omega | rfl) ?_; conv => whnf) | ((with_reducible refine bk_true ?_); conv => whnf) | ((with_reducible refine bk_false ?_); conv => whnf))))
      refine ⟨_, rfl, u32 (word i), ?_, ?_⟩
      · rw [Nat.zero_add, Nat.mul_one, Int.toNat_natCast, List.getElem?_map, List.getElem?_range (by omega)]; rfl
      ((conv => whnf) <;> (repeat (first | (refine And.intro (by first | omega | rfl) ?_; conv => whnf) | ((with_reducible refine bk_true ?_); conv => whnf) | ((with_reducible refine bk_false ?_); conv => whnf))))
      refine And.intro ?_ trivial
      refine vcall_pf (Word_fn i (by omega)) rfl rfl ?_
      ((conv => whnf) <;> (repeat (first | (refine And.intro (by first | omega | rfl) ?_; conv => whnf) | ((with_reducible refine bk_true ?_); conv => whnf) | ((with_reducible refine bk_false ?_); conv => whnf))))
      have e : intCm .neq ((word i).toNat : Int) ((Nat.repeat Step 8 (BitVec.ofNat 32 i)).toNat : Int) = false := by
        rw [word_eq]; simp [intCm, steps]
      rw [e]
      refine bk_false ?_
      ((conv => whnf) <;> (repeat (first | (refine And.intro (by first | omega | rfl) ?_; conv => whnf) | ((with_reducible refine bk_true ?_); conv => whnf) | ((with_reducible refine bk_false ?_); conv => whnf))))
      refine ⟨i + 1, (show i + 1 ≤ 256 by omega), (show 256 - (i + 1) < 256 - i by omega), ?_⟩
      (refine ⟨⟨rfl, rfl⟩, ?_, ?_⟩ <;> (repeat' (first | exact TLe.nil | exact HLe.nil _ | refine TLe.cons ?_ ?_ | refine HLe.cons ?_ ?_ | exact KLe.ptr rfl | exact KLe.sl rfl (.inl rfl) | exact KLe.csl rfl | refine KLe.pe ?_ | refine BLe.pe ?_ | refine BLe.mx ?_ | exact KLeL.nil | refine KLeL.cons ?_ ?_ | exact KLe.und _ | exact BLe.dead _)) <;> (try with_reducible rfl))
      all_goals first | ((refine congrArg (PV.int IntKind.i64) ?_) <;> (first | rfl | omega | (rw [add64 (by omega) (by omega)]; omega) | (rw [sub64 (by omega) (by omega)]; omega))) | skip
    · have hb := lss_f hb
      ((conv => whnf) <;> (repeat (first | (refine And.intro (by first | omega | rfl) ?_; conv => whnf) | ((with_reducible refine bk_true ?_); conv => whnf) | ((with_reducible refine bk_false ?_); conv => whnf))))
      exact ret_pf rfl rfl rfl

theorem Put_fn (w : BitVec 32) : PF Try.prog 23 [u32 w] (.str [UInt8.ofBitVec (w.setWidth 8), UInt8.ofBitVec ((w >>> 8).setWidth 8), UInt8.ofBitVec ((w >>> 16).setWidth 8), UInt8.ofBitVec ((w >>> 24).setWidth 8)]) := by
  refine pf_intro rf23_eq mixed rfl ?_
  ((conv => whnf) <;> (repeat (first | (refine And.intro (by first | omega | rfl) ?_; conv => whnf) | ((with_reducible refine bk_true ?_); conv => whnf) | ((with_reducible refine bk_false ?_); conv => whnf))))
  refine And.intro (by simp) ?_
  ((conv => whnf) <;> (repeat (first | (refine And.intro (by first | omega | rfl) ?_; conv => whnf) | ((with_reducible refine bk_true ?_); conv => whnf) | ((with_reducible refine bk_false ?_); conv => whnf))))
  refine ⟨_, rfl, rfl, [UInt8.ofBitVec (w.setWidth 8), UInt8.ofBitVec ((w >>> 8).setWidth 8), UInt8.ofBitVec ((w >>> 16).setWidth 8), UInt8.ofBitVec ((w >>> 24).setWidth 8)], ?_, ?_⟩
  · rw [u32_shr _ _ (by decide), u32_shr _ _ (by decide), u32_shr _ _ (by decide), u8_conv32, u8_conv32, u8_conv32, u8_conv32]
    rfl
  ((conv => whnf) <;> (repeat (first | (refine And.intro (by first | omega | rfl) ?_; conv => whnf) | ((with_reducible refine bk_true ?_); conv => whnf) | ((with_reducible refine bk_false ?_); conv => whnf))))
  exact ret_pf rfl rfl rfl

theorem RefPut_fn (w : BitVec 32) : PF Try.prog 24 [u32 w] (.str [UInt8.ofBitVec (w.setWidth 8), UInt8.ofBitVec ((w >>> 8).setWidth 8), UInt8.ofBitVec ((w >>> 16).setWidth 8), UInt8.ofBitVec ((w >>> 24).setWidth 8)]) := by
  have hq : ∀ n : Int, 0 ≤ n → n < 4294967296 → ∀ d : Nat, intAr .quo .u32 n (d : Int) = n / (d : Int) := fun n h0 h1 d => by
    show IntKind.u32.wrap (n.tdiv (d : Int)) = _
    rw [wrap_u32, Int.tdiv_eq_ediv_of_nonneg h0, Int.emod_eq_of_lt (Int.ediv_nonneg h0 (by omega))]
    exact Int.lt_of_le_of_lt (Int.ediv_le_self _ h0) h1
  have hr : ∀ n : Int, 0 ≤ n → intAr .rem .u32 n 256 = n % 256 := fun n h0 => Int.tmod_eq_emod_of_nonneg h0
  have hlt := w.isLt
  refine pf_intro rf24_eq mixed rfl ?_
  ((conv => whnf) <;> (repeat (first | (refine And.intro (by first | omega | rfl) ?_; conv => whnf) | ((with_reducible refine bk_true ?_); conv => whnf) | ((with_reducible refine bk_false ?_); conv => whnf))))
  refine And.intro (by simp) ?_
  ((conv => whnf) <;> (repeat (first | (refine And.intro (by first | omega | rfl) ?_; conv => whnf) | ((with_reducible refine bk_true ?_); conv => whnf) | ((with_reducible refine bk_false ?_); conv => whnf))))
  refine ⟨_, rfl, rfl, [UInt8.ofBitVec (w.setWidth 8), UInt8.ofBitVec ((w >>> 8).setWidth 8), UInt8.ofBitVec ((w >>> 16).setWidth 8), UInt8.ofBitVec ((w >>> 24).setWidth 8)], ?_, ?_⟩
  · have e1 : IntKind.u8.wrap (intAr .rem .u32 (w.toNat : Int) 256) = ((w.setWidth 8).toNat : Int) := by
      rw [hr _ (by omega), wrap_u8, BitVec.toNat_setWidth]; omega
    have e2 : ∀ d : Nat, 0 < d → IntKind.u8.wrap (intAr .rem .u32 (intAr .quo .u32 (w.toNat : Int) (d : Int)) 256) = ((w.toNat / d % 256 : Nat) : Int) := fun d hd => by
      rw [hq _ (by omega) (by omega), hr _ (Int.ediv_nonneg (by omega) (by omega)), wrap_u8]; omega
    have e3 : IntKind.u8.wrap (intAr .quo .u32 (w.toNat : Int) 16777216) = ((w.toNat / 16777216 % 256 : Nat) : Int) := by
      have := hq (w.toNat : Int) (by omega) (by omega) 16777216
      rw [show ((16777216 : Nat) : Int) = 16777216 from rfl] at this
      rw [this, wrap_u8]; omega
    have f2 := e2 256 (by decide)
    have f3 := e2 65536 (by decide)
    rw [show ((256 : Nat) : Int) = 256 from rfl] at f2
    rw [show ((65536 : Nat) : Int) = 65536 from rfl] at f3
    rw [e1, f2, f3, e3]
    have g : ∀ n : Nat, ((w >>> n).setWidth 8).toNat = w.toNat / 2 ^ n % 256 := fun n => by
      rw [BitVec.toNat_setWidth, BitVec.toNat_ushiftRight, Nat.shiftRight_eq_div_pow]
    have g1 := g 8
    have g2 := g 16
    have g3 := g 24
    simp only [List.map_cons, List.map_nil, encByte]
    show [[PV.int .u8 _], [PV.int .u8 _], [PV.int .u8 _], [PV.int .u8 _]] = [[PV.int .u8 ((w.setWidth 8).toNat : Int)], [PV.int .u8 (((w >>> 8).setWidth 8).toNat : Int)], [PV.int .u8 (((w >>> 16).setWidth 8).toNat : Int)], [PV.int .u8 (((w >>> 24).setWidth 8).toNat : Int)]]
    rw [g1, g2, g3]
  ((conv => whnf) <;> (repeat (first | (refine And.intro (by first | omega | rfl) ?_; conv => whnf) | ((with_reducible refine bk_true ?_); conv => whnf) | ((with_reducible refine bk_false ?_); conv => whnf))))
  exact ret_pf rfl rfl rfl

theorem CrcSums_fn (s : List UInt8) (sum : BitVec 32) : PF Try.prog 6 [.str s, u32 sum] (.b true) := by
  refine pf_intro rf6_eq mixed rfl ?_
  ((conv => whnf) <;> (repeat (first | (refine And.intro (by first | omega | rfl) ?_; conv => whnf) | ((with_reducible refine bk_true ?_); conv => whnf) | ((with_reducible refine bk_false ?_); conv => whnf))))
  refine vcall_pf alive_fn rfl rfl ?_
  ((conv => whnf) <;> (repeat (first | (refine And.intro (by first | omega | rfl) ?_; conv => whnf) | ((with_reducible refine bk_true ?_); conv => whnf) | ((with_reducible refine bk_false ?_); conv => whnf))))
  refine bk_false ?_
  ((conv => whnf) <;> (repeat (first | (refine And.intro (by first | omega | rfl) ?_; conv => whnf) | ((with_reducible refine bk_true ?_); conv => whnf) | ((with_reducible refine bk_false ?_); conv => whnf))))
  (refine bk_split (fun hb => ?_) (fun hb => ?_))
  · ((conv => whnf) <;> (repeat (first | (refine And.intro (by first | omega | rfl) ?_; conv => whnf) | ((with_reducible refine bk_true ?_); conv => whnf) | ((with_reducible refine bk_false ?_); conv => whnf))))
    exact ret_pf rfl rfl rfl
  · have hs : s.length < 4611686018427387904 := by have := gtr_f hb; omega
    refine vcall_pf (Sum_fn s hs) rfl rfl ?_
    ((conv => whnf) <;> (repeat (first | (refine And.intro (by first | omega | rfl) ?_; conv => whnf) | ((with_reducible refine bk_true ?_); conv => whnf) | ((with_reducible refine bk_false ?_); conv => whnf))))
    refine vcall_pf (RefSum_fn s hs) rfl rfl ?_
    ((conv => whnf) <;> (repeat (first | (refine And.intro (by first | omega | rfl) ?_; conv => whnf) | ((with_reducible refine bk_true ?_); conv => whnf) | ((with_reducible refine bk_false ?_); conv => whnf))))
    rw [fold_eq]
    have e : ∀ n : Int, intCm .eql n n = true := fun n => by simp [intCm]
    rw [e]
    ((conv => whnf) <;> (repeat (first | (refine And.intro (by first | omega | rfl) ?_; conv => whnf) | ((with_reducible refine bk_true ?_); conv => whnf) | ((with_reducible refine bk_false ?_); conv => whnf))))
    refine vcall_pf (More_fn sum s hs) rfl rfl ?_
    ((conv => whnf) <;> (repeat (first | (refine And.intro (by first | omega | rfl) ?_; conv => whnf) | ((with_reducible refine bk_true ?_); conv => whnf) | ((with_reducible refine bk_false ?_); conv => whnf))))
    refine vcall_pf (RefMore_fn sum s hs) rfl rfl ?_
    rw [fold_eq]
    ((conv => whnf) <;> (repeat (first | (refine And.intro (by first | omega | rfl) ?_; conv => whnf) | ((with_reducible refine bk_true ?_); conv => whnf) | ((with_reducible refine bk_false ?_); conv => whnf))))
    rw [e]
    ((conv => whnf) <;> (repeat (first | (refine And.intro (by first | omega | rfl) ?_; conv => whnf) | ((with_reducible refine bk_true ?_); conv => whnf) | ((with_reducible refine bk_false ?_); conv => whnf))))
    refine vcall_pf (Put_fn sum) rfl rfl ?_
    ((conv => whnf) <;> (repeat (first | (refine And.intro (by first | omega | rfl) ?_; conv => whnf) | ((with_reducible refine bk_true ?_); conv => whnf) | ((with_reducible refine bk_false ?_); conv => whnf))))
    refine vcall_pf (RefPut_fn sum) rfl rfl ?_
    ((conv => whnf) <;> (repeat (first | (refine And.intro (by first | omega | rfl) ?_; conv => whnf) | ((with_reducible refine bk_true ?_); conv => whnf) | ((with_reducible refine bk_false ?_); conv => whnf))))
    refine ret_pf rfl rfl ?_
    simp [strCm]

end Hk
