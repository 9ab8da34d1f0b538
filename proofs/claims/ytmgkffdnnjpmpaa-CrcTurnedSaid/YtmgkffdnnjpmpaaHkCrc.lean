/- The walks of the crc functions. -/
import Derived.Test.YtmgkffdnnjpmpaaHkCrcRf
namespace Hk
open Go Go.Proofs
set_option linter.unusedVariables false
set_option maxRecDepth 100000

theorem mixed : Try.prog.follows .mixedOrders = true := by kernel_rfl

def step (w : BitVec 32) : BitVec 32 := (w >>> 1) ^^^ (2197175160#32 &&& -(w &&& 1#32))

theorem step_fn (w : BitVec 32) : PF Try.prog 61 [u32 w] (u32 (step w)) := by
  refine pf_intro rf61_eq mixed rfl ?_
  ((conv => whnf) <;> (repeat (first | (refine And.intro (by first | omega | rfl) ?_; conv => whnf) | ((with_reducible refine bk_true ?_); conv => whnf) | ((with_reducible refine bk_false ?_); conv => whnf))))
  refine ret_pf rfl rfl ?_
  congr 1
  rw [u32_shr _ _ (by decide), show (1 : Int) = ((1#32).toNat : Int) from rfl, u32_and, u32_neg, show (2197175160 : Int) = ((2197175160#32).toNat : Int) from rfl, u32_and, u32_xor]
  rfl

def Step (w : BitVec 32) : BitVec 32 := if w.toNat % 2 = 1 then (w >>> 1) ^^^ 2197175160#32 else w >>> 1

theorem quo2 (w : BitVec 32) : intAr .quo .u32 (w.toNat : Int) 2 = ((w >>> 1).toNat : Int) := by
  show IntKind.u32.wrap ((w.toNat : Int).tdiv 2) = _
  rw [wrap_u32, BitVec.toNat_ushiftRight, Nat.shiftRight_eq_div_pow, Int.tdiv_eq_ediv_of_nonneg (by omega)]
  have := w.isLt
  omega

theorem rem2 (w : BitVec 32) : intAr .rem .u32 (w.toNat : Int) 2 = ((w.toNat % 2 : Nat) : Int) := by
  show (w.toNat : Int).tmod 2 = _
  rw [Int.tmod_eq_emod_of_nonneg (by omega)]
  omega

theorem Step_fn (w : BitVec 32) : PF Try.prog 62 [u32 w] (u32 (Step w)) := by
  refine pf_intro rf62_eq mixed rfl ?_
  ((conv => whnf) <;> (repeat (first | (refine And.intro (by first | omega | rfl) ?_; conv => whnf) | ((with_reducible refine bk_true ?_); conv => whnf) | ((with_reducible refine bk_false ?_); conv => whnf))))
  (refine bk_split (fun hb => ?_) (fun hb => ?_))
  · have hb := eql_t hb
    rw [rem2] at hb
    ((conv => whnf) <;> (repeat (first | (refine And.intro (by first | omega | rfl) ?_; conv => whnf) | ((with_reducible refine bk_true ?_); conv => whnf) | ((with_reducible refine bk_false ?_); conv => whnf))))
    refine ret_pf rfl rfl ?_
    congr 1
    rw [quo2, show (2197175160 : Int) = ((2197175160#32).toNat : Int) from rfl, u32_xor, Step, if_pos (by omega)]
  · have hb := eql_f hb
    rw [rem2] at hb
    ((conv => whnf) <;> (repeat (first | (refine And.intro (by first | omega | rfl) ?_; conv => whnf) | ((with_reducible refine bk_true ?_); conv => whnf) | ((with_reducible refine bk_false ?_); conv => whnf))))
    refine ret_pf rfl rfl ?_
    congr 1
    rw [quo2, Step, if_neg (by omega)]

theorem Word_fn (i : Nat) (h : i < 256) : PF Try.prog 18 [i64 i] (u32 (Nat.repeat Step 8 (BitVec.ofNat 32 i))) := by
  refine pf_intro rf18_eq mixed rfl ?_
  ((conv => whnf) <;> (repeat (first | (refine And.intro (by first | omega | rfl) ?_; conv => whnf) | ((with_reducible refine bk_true ?_); conv => whnf) | ((with_reducible refine bk_false ?_); conv => whnf))))
  refine ⟨[], Nat, fun k => ⟨[(3, .p (u32 (Nat.repeat Step k (BitVec.ofNat 32 i)))), (4, .p (i64 k))], []⟩, fun k => k ≤ 8, fun k => 8 - k, ⟨0, by decide, ?_⟩, fun k hk => ?_⟩
  · (refine ⟨⟨rfl, rfl⟩, ?_, ?_⟩ <;> (repeat' (first | exact TLe.nil | exact HLe.nil _ | refine TLe.cons ?_ ?_ | refine HLe.cons ?_ ?_ | exact KLe.ptr rfl | exact KLe.sl rfl (.inl rfl) | exact KLe.csl rfl | refine KLe.pe ?_ | refine BLe.pe ?_ | refine BLe.mx ?_ | exact KLeL.nil | refine KLeL.cons ?_ ?_ | exact KLe.und _ | exact BLe.dead _)) <;> (try with_reducible rfl))
    all_goals first | ((refine congrArg (PV.int IntKind.i64) ?_) <;> (first | rfl | omega | (rw [add64 (by omega) (by omega)]; omega) | (rw [sub64 (by omega) (by omega)]; omega))) | exact congrArg (PV.int .u32) (u32_ofNat i)
  · have hk : k ≤ 8 := hk
    ((conv => whnf) <;> (repeat (first | (refine And.intro (by first | omega | rfl) ?_; conv => whnf) | ((with_reducible refine bk_true ?_); conv => whnf) | ((with_reducible refine bk_false ?_); conv => whnf))))
    (refine bk_split (fun hb => ?_) (fun hb => ?_))
    · have hb := lss_t hb
      ((conv => whnf) <;> (repeat (first | (refine And.intro (by first | omega | rfl) ?_; conv => whnf) | ((with_reducible refine bk_true ?_); conv => whnf) | ((with_reducible refine bk_false ?_); conv => whnf))))
      refine vcall_pf (Step_fn _) rfl rfl ?_
      ((conv => whnf) <;> (repeat (first | (refine And.intro (by first | omega | rfl) ?_; conv => whnf) | ((with_reducible refine bk_true ?_); conv => whnf) | ((with_reducible refine bk_false ?_); conv => whnf))))
      refine ⟨k + 1, (show k + 1 ≤ 8 by omega), (show 8 - (k + 1) < 8 - k by omega), ?_⟩
      (refine ⟨⟨rfl, rfl⟩, ?_, ?_⟩ <;> (repeat' (first | exact TLe.nil | exact HLe.nil _ | refine TLe.cons ?_ ?_ | refine HLe.cons ?_ ?_ | exact KLe.ptr rfl | exact KLe.sl rfl (.inl rfl) | exact KLe.csl rfl | refine KLe.pe ?_ | refine BLe.pe ?_ | refine BLe.mx ?_ | exact KLeL.nil | refine KLeL.cons ?_ ?_ | exact KLe.und _ | exact BLe.dead _)) <;> (try with_reducible rfl))
      all_goals first | ((refine congrArg (PV.int IntKind.i64) ?_) <;> (first | rfl | omega | (rw [add64 (by omega) (by omega)]; omega) | (rw [sub64 (by omega) (by omega)]; omega))) | exact rfl
    · have hb := lss_f hb
      ((conv => whnf) <;> (repeat (first | (refine And.intro (by first | omega | rfl) ?_; conv => whnf) | ((with_reducible refine bk_true ?_); conv => whnf) | ((with_reducible refine bk_false ?_); conv => whnf))))
      obtain rfl : k = 8 := by omega
      exact ret_pf rfl rfl rfl

def word (i : Nat) : BitVec 32 := Nat.repeat step 8 (BitVec.ofNat 32 i)

theorem Table_fn : PF Try.prog 17 [] (.agg ((List.range 256).map fun i => u32 (word i))) := by
  refine pf_intro rf17_eq mixed rfl ?_
  ((conv => whnf) <;> (repeat (first | (refine And.intro (by first | omega | rfl) ?_; conv => whnf) | ((with_reducible refine bk_true ?_); conv => whnf) | ((with_reducible refine bk_false ?_); conv => whnf))))
  refine ⟨[], Nat, fun k => ⟨[(0, .ptr 0 256 0 0), (1, .ptr 1 256 0 0), (4, .p (i64 k))], [.pr 256 [List.replicate 256 (.int .u32 0)], .pr 256 [upto 256 k (fun i => u32 (word i)) (.int .u32 0)]]⟩,
    fun k => k ≤ 256, fun k => 256 - k, ⟨0, by decide, ?_⟩, fun k hk => ?_⟩
  · (refine ⟨⟨rfl, rfl⟩, ?_, ?_⟩ <;> (repeat' (first | exact TLe.nil | exact HLe.nil _ | refine TLe.cons ?_ ?_ | refine HLe.cons ?_ ?_ | exact KLe.ptr rfl | exact KLe.sl rfl (.inl rfl) | exact KLe.csl rfl | refine KLe.pe ?_ | refine BLe.pe ?_ | refine BLe.mx ?_ | exact KLeL.nil | refine KLeL.cons ?_ ?_ | exact KLe.und _ | exact BLe.dead _)) <;> (try with_reducible rfl))
    all_goals first | ((refine congrArg (PV.int IntKind.i64) ?_) <;> (first | rfl | omega | (rw [add64 (by omega) (by omega)]; omega) | (rw [sub64 (by omega) (by omega)]; omega))) | (rw [upto_zero])
  · have hk : k ≤ 256 := hk
    ((conv => whnf) <;> (repeat (first | (refine And.intro (by first | omega | rfl) ?_; conv => whnf) | ((with_reducible refine bk_true ?_); conv => whnf) | ((with_reducible refine bk_false ?_); conv => whnf))))
    (refine bk_split (fun hb => ?_) (fun hb => ?_))
    · have hb := lss_t hb
      ((conv => whnf) <;> (repeat (first | (refine And.intro (by first | omega | rfl) ?_; conv => whnf) | ((with_reducible refine bk_true ?_); conv => whnf) | ((with_reducible refine bk_false ?_); conv => whnf))))
      refine ⟨[], Nat, fun j => ⟨[(0, .ptr 0 256 0 0), (1, .ptr 1 256 0 0), (2, .p (i64 k)), (3, .p (u32 (Nat.repeat step j (BitVec.ofNat 32 k)))), (4, .p (i64 k)), (9, .p (i64 j))],
         [.pr 256 [List.replicate 256 (.int .u32 0)], .pr 256 [upto 256 k (fun i => u32 (word i)) (.int .u32 0)]]⟩,
        fun j => j ≤ 8, fun j => 8 - j, ⟨0, by decide, ?_⟩, fun j hj => ?_⟩
      · (refine ⟨⟨rfl, rfl⟩, ?_, ?_⟩ <;> (repeat' (first | exact TLe.nil | exact HLe.nil _ | refine TLe.cons ?_ ?_ | refine HLe.cons ?_ ?_ | exact KLe.ptr rfl | exact KLe.sl rfl (.inl rfl) | exact KLe.csl rfl | refine KLe.pe ?_ | refine BLe.pe ?_ | refine BLe.mx ?_ | exact KLeL.nil | refine KLeL.cons ?_ ?_ | exact KLe.und _ | exact BLe.dead _)) <;> (try with_reducible rfl))
        all_goals first | ((refine congrArg (PV.int IntKind.i64) ?_) <;> (first | rfl | omega | (rw [add64 (by omega) (by omega)]; omega) | (rw [sub64 (by omega) (by omega)]; omega))) | exact congrArg (PV.int .u32) (u32_ofNat k)
      · have hj : j ≤ 8 := hj
        ((conv => whnf) <;> (repeat (first | (refine And.intro (by first | omega | rfl) ?_; conv => whnf) | ((with_reducible refine bk_true ?_); conv => whnf) | ((with_reducible refine bk_false ?_); conv => whnf))))
        (refine bk_split (fun hb => ?_) (fun hb => ?_))
        · have hb := lss_t hb
          ((conv => whnf) <;> (repeat (first | (refine And.intro (by first | omega | rfl) ?_; conv => whnf) | ((with_reducible refine bk_true ?_); conv => whnf) | ((with_reducible refine bk_false ?_); conv => whnf))))
          refine vcall_pf (step_fn _) rfl rfl ?_
          ((conv => whnf) <;> (repeat (first | (refine And.intro (by first | omega | rfl) ?_; conv => whnf) | ((with_reducible refine bk_true ?_); conv => whnf) | ((with_reducible refine bk_false ?_); conv => whnf))))
          refine ⟨j + 1, (show j + 1 ≤ 8 by omega), (show 8 - (j + 1) < 8 - j by omega), ?_⟩
          (refine ⟨⟨rfl, rfl⟩, ?_, ?_⟩ <;> (repeat' (first | exact TLe.nil | exact HLe.nil _ | refine TLe.cons ?_ ?_ | refine HLe.cons ?_ ?_ | exact KLe.ptr rfl | exact KLe.sl rfl (.inl rfl) | exact KLe.csl rfl | refine KLe.pe ?_ | refine BLe.pe ?_ | refine BLe.mx ?_ | exact KLeL.nil | refine KLeL.cons ?_ ?_ | exact KLe.und _ | exact BLe.dead _)) <;> (try with_reducible rfl))
          all_goals first | ((refine congrArg (PV.int IntKind.i64) ?_) <;> (first | rfl | omega | (rw [add64 (by omega) (by omega)]; omega) | (rw [sub64 (by omega) (by omega)]; omega))) | exact rfl
        · have hb := lss_f hb
          obtain rfl : j = 8 := by omega
          ((conv => whnf) <;> (repeat (first | (refine And.intro (by first | omega | rfl) ?_; conv => whnf) | ((with_reducible refine bk_true ?_); conv => whnf) | ((with_reducible refine bk_false ?_); conv => whnf))))
          refine ⟨_, rfl, rfl, by rw [upto_len]; omega, ?_⟩
          ((conv => whnf) <;> (repeat (first | (refine And.intro (by first | omega | rfl) ?_; conv => whnf) | ((with_reducible refine bk_true ?_); conv => whnf) | ((with_reducible refine bk_false ?_); conv => whnf))))
          refine ⟨k + 1, (show k + 1 ≤ 256 by omega), (show 256 - (k + 1) < 256 - k by omega), ?_⟩
          (refine ⟨⟨rfl, rfl⟩, ?_, ?_⟩ <;> (repeat' (first | exact TLe.nil | exact HLe.nil _ | refine TLe.cons ?_ ?_ | refine HLe.cons ?_ ?_ | exact KLe.ptr rfl | exact KLe.sl rfl (.inl rfl) | exact KLe.csl rfl | refine KLe.pe ?_ | refine BLe.pe ?_ | refine BLe.mx ?_ | exact KLeL.nil | refine KLeL.cons ?_ ?_ | exact KLe.und _ | exact BLe.dead _)) <;> (try with_reducible rfl))
          · ((refine congrArg (PV.int IntKind.i64) ?_) <;> (first | rfl | omega | (rw [add64 (by omega) (by omega)]; omega) | (rw [sub64 (by omega) (by omega)]; omega)))
          · simp only [List.set_cons_zero, Nat.zero_add, Nat.mul_one, Int.toNat_natCast]
            exact congrArg (fun r => [r]) (upto_set (f := fun i => u32 (word i)) (by omega))
    · have hb := lss_f hb
      obtain rfl : k = 256 := by omega
      ((conv => whnf) <;> (repeat (first | (refine And.intro (by first | omega | rfl) ?_; conv => whnf) | ((with_reducible refine bk_true ?_); conv => whnf) | ((with_reducible refine bk_false ?_); conv => whnf))))
      refine ⟨_, rfl, (List.range 256).map fun i => u32 (word i), by rw [upto_full, List.take_of_length_le (by simp [dropN])]; rfl, by simp, ?_⟩
      ((conv => whnf) <;> (repeat (first | (refine And.intro (by first | omega | rfl) ?_; conv => whnf) | ((with_reducible refine bk_true ?_); conv => whnf) | ((with_reducible refine bk_false ?_); conv => whnf))))
      refine ⟨_, rfl, by simp, by simp, ?_⟩
      ((conv => whnf) <;> (repeat (first | (refine And.intro (by first | omega | rfl) ?_; conv => whnf) | ((with_reducible refine bk_true ?_); conv => whnf) | ((with_reducible refine bk_false ?_); conv => whnf))))
      refine ⟨_, rfl, (List.range 256).map fun i => u32 (word i), ?_, by simp, ?_⟩
      · show List.take 256 (List.take 0 _ ++ _ ++ List.drop _ _) = _
        rw [List.drop_of_length_le (by simp), List.take_zero, List.nil_append, List.append_nil, List.take_of_length_le (by simp)]
      · ((conv => whnf) <;> (repeat (first | (refine And.intro (by first | omega | rfl) ?_; conv => whnf) | ((with_reducible refine bk_true ?_); conv => whnf) | ((with_reducible refine bk_false ?_); conv => whnf))))
        exact ret_pf rfl rfl rfl

def crcByte (w : BitVec 32) (c : UInt8) : BitVec 32 := word ((w.setWidth 8 ^^^ c.toBitVec).toNat) ^^^ (w >>> 8)

theorem take_succ {α : Type} {l : List α} {i : Nat} {c : α} (h : l[i]? = some c) : l.take (i + 1) = l.take i ++ [c] := by
  rw [List.take_add_one, h]; rfl

theorem More_fn (sum : BitVec 32) (s : List UInt8) (hs : s.length < 4611686018427387904) : PF Try.prog 21 [u32 sum, .str s] (u32 (~~~ (s.foldl crcByte (~~~ sum)))) := by
  refine pf_intro rf21_eq mixed rfl ?_
  ((conv => whnf) <;> (repeat (first | (refine And.intro (by first | omega | rfl) ?_; conv => whnf) | ((with_reducible refine bk_true ?_); conv => whnf) | ((with_reducible refine bk_false ?_); conv => whnf))))
  refine vcall_pf Table_fn rfl rfl ?_
  ((conv => whnf) <;> (repeat (first | (refine And.intro (by first | omega | rfl) ?_; conv => whnf) | ((with_reducible refine bk_true ?_); conv => whnf) | ((with_reducible refine bk_false ?_); conv => whnf))))
  refine ⟨_, rfl, by simp, by simp, ?_⟩
  ((conv => whnf) <;> (repeat (first | (refine And.intro (by first | omega | rfl) ?_; conv => whnf) | ((with_reducible refine bk_true ?_); conv => whnf) | ((with_reducible refine bk_false ?_); conv => whnf))))
  refine ⟨[], Nat, fun i => ⟨[(1, .p (.str s)), (5, .ptr 0 256 0 0), (6, .p (u32 ((s.take i).foldl crcByte (~~~ sum)))), (12, .p (i64 s.length)), (13, .p (i64 i))],
    [.pr 256 [(List.range 256).map fun i => u32 (word i)]]⟩, fun i => i ≤ s.length, fun i => s.length - i, ⟨0, Nat.zero_le _, ?_⟩, fun i hi => ?_⟩
  · (refine ⟨⟨rfl, rfl⟩, ?_, ?_⟩ <;> (repeat' (first | exact TLe.nil | exact HLe.nil _ | refine TLe.cons ?_ ?_ | refine HLe.cons ?_ ?_ | exact KLe.ptr rfl | exact KLe.sl rfl (.inl rfl) | exact KLe.csl rfl | refine KLe.pe ?_ | refine BLe.pe ?_ | refine BLe.mx ?_ | exact KLeL.nil | refine KLeL.cons ?_ ?_ | exact KLe.und _ | exact BLe.dead _)) <;> (try with_reducible rfl))
    all_goals first | ((refine congrArg (PV.int IntKind.i64) ?_) <;> (first | rfl | omega | (rw [add64 (by omega) (by omega)]; omega) | (rw [sub64 (by omega) (by omega)]; omega))) | exact congrArg (PV.int .u32) (u32_not sum) | skip
    refine congrArg (fun r => [r]) ?_
    rw [List.drop_of_length_le (by simp), List.take_zero, List.nil_append, List.append_nil]
  · have hi : i ≤ s.length := hi
    ((conv => whnf) <;> (repeat (first | (refine And.intro (by first | omega | rfl) ?_; conv => whnf) | ((with_reducible refine bk_true ?_); conv => whnf) | ((with_reducible refine bk_false ?_); conv => whnf))))
    (refine bk_split (fun hb => ?_) (fun hb => ?_))
    · have hb := lss_t hb
      ((conv => whnf) <;> (repeat (first | (refine And.intro (by first | omega | rfl) ?_; conv => whnf) | ((with_reducible refine bk_true ?_); conv => whnf) | ((with_reducible refine bk_false ?_); conv => whnf))))
      have hlt : i < s.length := by omega
      obtain ⟨c, hc⟩ : ∃ c, s[i]? = some c := ⟨_, List.getElem?_eq_getElem hlt⟩
      refine ⟨c, hc, ?_⟩
      have e1 : intAr .xor .u8 (IntKind.u8.wrap (((s.take i).foldl crcByte (~~~ sum)).toNat : Int)) (c.toNat : Int) = ((((s.take i).foldl crcByte (~~~ sum)).setWidth 8 ^^^ c.toBitVec).toNat : Int) := by
        rw [u8_conv32]; exact u8_xor _ _
      ((conv => whnf) <;> (repeat (first | (refine And.intro (by first | omega | rfl) ?_; conv => whnf) | ((with_reducible refine bk_true ?_); conv => whnf) | ((with_reducible refine bk_false ?_); conv => whnf))))
      rw [e1]
      have e2 := ((((s.take i).foldl crcByte (~~~ sum)).setWidth 8 ^^^ c.toBitVec)).isLt
      refine ⟨_, rfl, u32 (word ((((s.take i).foldl crcByte (~~~ sum)).setWidth 8 ^^^ c.toBitVec).toNat)), ?_, ?_⟩
      · rw [Nat.zero_add, Nat.mul_one, Int.toNat_natCast, List.getElem?_map, List.getElem?_range (by omega)]; rfl
      ((conv => whnf) <;> (repeat (first | (refine And.intro (by first | omega | rfl) ?_; conv => whnf) | ((with_reducible refine bk_true ?_); conv => whnf) | ((with_reducible refine bk_false ?_); conv => whnf))))
      refine ⟨i + 1, (show i + 1 ≤ s.length by omega), (show s.length - (i + 1) < s.length - i by omega), ?_⟩
      (refine ⟨⟨rfl, rfl⟩, ?_, ?_⟩ <;> (repeat' (first | exact TLe.nil | exact HLe.nil _ | refine TLe.cons ?_ ?_ | refine HLe.cons ?_ ?_ | exact KLe.ptr rfl | exact KLe.sl rfl (.inl rfl) | exact KLe.csl rfl | refine KLe.pe ?_ | refine BLe.pe ?_ | refine BLe.mx ?_ | exact KLeL.nil | refine KLeL.cons ?_ ?_ | exact KLe.und _ | exact BLe.dead _)) <;> (try with_reducible rfl))
      all_goals first | ((refine congrArg (PV.int IntKind.i64) ?_) <;> (first | rfl | omega | (rw [add64 (by omega) (by omega)]; omega) | (rw [sub64 (by omega) (by omega)]; omega))) | skip
      refine congrArg (PV.int .u32) ?_
      rw [u32_shr _ _ (by decide), u32_xor, take_succ hc, List.foldl_append]
      rfl
    · have hb := lss_f hb
      ((conv => whnf) <;> (repeat (first | (refine And.intro (by first | omega | rfl) ?_; conv => whnf) | ((with_reducible refine bk_true ?_); conv => whnf) | ((with_reducible refine bk_false ?_); conv => whnf))))
      refine ret_pf rfl rfl ?_
      obtain rfl : i = s.length := by omega
      rw [List.take_length]
      exact congrArg (PV.int .u32) (u32_not _)

theorem Sum_fn (s : List UInt8) (hs : s.length < 4611686018427387904) : PF Try.prog 19 [.str s] (u32 (~~~ (s.foldl crcByte (~~~ 0#32)))) := by
  refine pf_intro rf19_eq mixed rfl ?_
  ((conv => whnf) <;> (repeat (first | (refine And.intro (by first | omega | rfl) ?_; conv => whnf) | ((with_reducible refine bk_true ?_); conv => whnf) | ((with_reducible refine bk_false ?_); conv => whnf))))
  refine vcall_pf (More_fn 0#32 s hs) rfl rfl ?_
  ((conv => whnf) <;> (repeat (first | (refine And.intro (by first | omega | rfl) ?_; conv => whnf) | ((with_reducible refine bk_true ?_); conv => whnf) | ((with_reducible refine bk_false ?_); conv => whnf))))
  exact ret_pf rfl rfl rfl

def refByte (w : BitVec 32) (c : UInt8) : BitVec 32 := Nat.repeat Step 8 (w ^^^ c.toBitVec.setWidth 32)

theorem RefMore_fn (sum : BitVec 32) (s : List UInt8) (hs : s.length < 4611686018427387904) : PF Try.prog 22 [u32 sum, .str s] (u32 (~~~ (s.foldl refByte (~~~ sum)))) := by
  have hneg : ∀ w : BitVec 32, intAr .sub .u32 4294967295 (w.toNat : Int) = ((~~~ w).toNat : Int) := fun w => by
    rw [show (4294967295 : Int) = ((4294967295#32).toNat : Int) from rfl, u32_sub]
    have h1 := w.isLt
    rw [BitVec.toNat_sub, BitVec.toNat_not]
    simp only [BitVec.toNat_ofNat]
    omega
  refine pf_intro rf22_eq mixed rfl ?_
  ((conv => whnf) <;> (repeat (first | (refine And.intro (by first | omega | rfl) ?_; conv => whnf) | ((with_reducible refine bk_true ?_); conv => whnf) | ((with_reducible refine bk_false ?_); conv => whnf))))
  refine ⟨[], Nat, fun i => ⟨[(1, .p (.str s)), (5, .p (u32 ((s.take i).foldl refByte (~~~ sum)))), (6, .p (i64 i))], []⟩, fun i => i ≤ s.length, fun i => s.length - i, ⟨0, Nat.zero_le _, ?_⟩, fun i hi => ?_⟩
  · (refine ⟨⟨rfl, rfl⟩, ?_, ?_⟩ <;> (repeat' (first | exact TLe.nil | exact HLe.nil _ | refine TLe.cons ?_ ?_ | refine HLe.cons ?_ ?_ | exact KLe.ptr rfl | exact KLe.sl rfl (.inl rfl) | exact KLe.csl rfl | refine KLe.pe ?_ | refine BLe.pe ?_ | refine BLe.mx ?_ | exact KLeL.nil | refine KLeL.cons ?_ ?_ | exact KLe.und _ | exact BLe.dead _)) <;> (try with_reducible rfl))
    all_goals first | ((refine congrArg (PV.int IntKind.i64) ?_) <;> (first | rfl | omega | (rw [add64 (by omega) (by omega)]; omega) | (rw [sub64 (by omega) (by omega)]; omega))) | exact congrArg (PV.int .u32) (hneg sum)
  · have hi : i ≤ s.length := hi
    ((conv => whnf) <;> (repeat (first | (refine And.intro (by first | omega | rfl) ?_; conv => whnf) | ((with_reducible refine bk_true ?_); conv => whnf) | ((with_reducible refine bk_false ?_); conv => whnf))))
    (refine bk_split (fun hb => ?_) (fun hb => ?_))
    · have hb := lss_t hb
      ((conv => whnf) <;> (repeat (first | (refine And.intro (by first | omega | rfl) ?_; conv => whnf) | ((with_reducible refine bk_true ?_); conv => whnf) | ((with_reducible refine bk_false ?_); conv => whnf))))
      have hlt : i < s.length := by omega
      obtain ⟨c, hc⟩ : ∃ c, s[i]? = some c := ⟨_, List.getElem?_eq_getElem hlt⟩
      refine ⟨c, hc, ?_⟩
      ((conv => whnf) <;> (repeat (first | (refine And.intro (by first | omega | rfl) ?_; conv => whnf) | ((with_reducible refine bk_true ?_); conv => whnf) | ((with_reducible refine bk_false ?_); conv => whnf))))
      refine ⟨[], Nat, fun k => ⟨[(1, .p (.str s)), (5, .p (u32 (Nat.repeat Step k (((s.take i).foldl refByte (~~~ sum)) ^^^ c.toBitVec.setWidth 32)))), (6, .p (i64 i)), (7, .p (i64 k))], []⟩,
        fun k => k ≤ 8, fun k => 8 - k, ⟨0, by decide, ?_⟩, fun k hk => ?_⟩
      · (refine ⟨⟨rfl, rfl⟩, ?_, ?_⟩ <;> (repeat' (first | exact TLe.nil | exact HLe.nil _ | refine TLe.cons ?_ ?_ | refine HLe.cons ?_ ?_ | exact KLe.ptr rfl | exact KLe.sl rfl (.inl rfl) | exact KLe.csl rfl | refine KLe.pe ?_ | refine BLe.pe ?_ | refine BLe.mx ?_ | exact KLeL.nil | refine KLeL.cons ?_ ?_ | exact KLe.und _ | exact BLe.dead _)) <;> (try with_reducible rfl))
        all_goals first | ((refine congrArg (PV.int IntKind.i64) ?_) <;> (first | rfl | omega | (rw [add64 (by omega) (by omega)]; omega) | (rw [sub64 (by omega) (by omega)]; omega))) | skip
        refine congrArg (PV.int .u32) ?_
        rw [show (c.toNat : Int) = (c.toBitVec.toNat : Int) from rfl, u32_conv8, u32_xor]
        rfl
      · have hk : k ≤ 8 := hk
        ((conv => whnf) <;> (repeat (first | (refine And.intro (by first | omega | rfl) ?_; conv => whnf) | ((with_reducible refine bk_true ?_); conv => whnf) | ((with_reducible refine bk_false ?_); conv => whnf))))
        (refine bk_split (fun hb => ?_) (fun hb => ?_))
        · have hb := lss_t hb
          ((conv => whnf) <;> (repeat (first | (refine And.intro (by first | omega | rfl) ?_; conv => whnf) | ((with_reducible refine bk_true ?_); conv => whnf) | ((with_reducible refine bk_false ?_); conv => whnf))))
          refine vcall_pf (Step_fn _) rfl rfl ?_
          ((conv => whnf) <;> (repeat (first | (refine And.intro (by first | omega | rfl) ?_; conv => whnf) | ((with_reducible refine bk_true ?_); conv => whnf) | ((with_reducible refine bk_false ?_); conv => whnf))))
          refine ⟨k + 1, (show k + 1 ≤ 8 by omega), (show 8 - (k + 1) < 8 - k by omega), ?_⟩
          (refine ⟨⟨rfl, rfl⟩, ?_, ?_⟩ <;> (repeat' (first | exact TLe.nil | exact HLe.nil _ | refine TLe.cons ?_ ?_ | refine HLe.cons ?_ ?_ | exact KLe.ptr rfl | exact KLe.sl rfl (.inl rfl) | exact KLe.csl rfl | refine KLe.pe ?_ | refine BLe.pe ?_ | refine BLe.mx ?_ | exact KLeL.nil | refine KLeL.cons ?_ ?_ | exact KLe.und _ | exact BLe.dead _)) <;> (try with_reducible rfl))
          all_goals first | ((refine congrArg (PV.int IntKind.i64) ?_) <;> (first | rfl | omega | (rw [add64 (by omega) (by omega)]; omega) | (rw [sub64 (by omega) (by omega)]; omega))) | exact rfl
        · have hb := lss_f hb
          ((conv => whnf) <;> (repeat (first | (refine And.intro (by first | omega | rfl) ?_; conv => whnf) | ((with_reducible refine bk_true ?_); conv => whnf) | ((with_reducible refine bk_false ?_); conv => whnf))))
          obtain rfl : k = 8 := by omega
          refine ⟨i + 1, (show i + 1 ≤ s.length by omega), (show s.length - (i + 1) < s.length - i by omega), ?_⟩
          (refine ⟨⟨rfl, rfl⟩, ?_, ?_⟩ <;> (repeat' (first | exact TLe.nil | exact HLe.nil _ | refine TLe.cons ?_ ?_ | refine HLe.cons ?_ ?_ | exact KLe.ptr rfl | exact KLe.sl rfl (.inl rfl) | exact KLe.csl rfl | refine KLe.pe ?_ | refine BLe.pe ?_ | refine BLe.mx ?_ | exact KLeL.nil | refine KLeL.cons ?_ ?_ | exact KLe.und _ | exact BLe.dead _)) <;> (try with_reducible rfl))
          all_goals first | ((refine congrArg (PV.int IntKind.i64) ?_) <;> (first | rfl | omega | (rw [add64 (by omega) (by omega)]; omega) | (rw [sub64 (by omega) (by omega)]; omega))) | skip
          refine congrArg (PV.int .u32) ?_
          rw [take_succ hc, List.foldl_append]
          rfl
    · have hb := lss_f hb
      ((conv => whnf) <;> (repeat (first | (refine And.intro (by first | omega | rfl) ?_; conv => whnf) | ((with_reducible refine bk_true ?_); conv => whnf) | ((with_reducible refine bk_false ?_); conv => whnf))))
      refine ret_pf rfl rfl ?_
      obtain rfl : i = s.length := by omega
      rw [List.take_length]
      exact congrArg (PV.int .u32) (hneg _)

theorem RefSum_fn (s : List UInt8) (hs : s.length < 4611686018427387904) : PF Try.prog 20 [.str s] (u32 (~~~ (s.foldl refByte (~~~ 0#32)))) := by
  refine pf_intro rf20_eq mixed rfl ?_
  ((conv => whnf) <;> (repeat (first | (refine And.intro (by first | omega | rfl) ?_; conv => whnf) | ((with_reducible refine bk_true ?_); conv => whnf) | ((with_reducible refine bk_false ?_); conv => whnf))))
  refine vcall_pf (RefMore_fn 0#32 s hs) rfl rfl ?_
  ((conv => whnf) <;> (repeat (first | (refine And.intro (by first | omega | rfl) ?_; conv => whnf) | ((with_reducible refine bk_true ?_); conv => whnf) | ((with_reducible refine bk_false ?_); conv => whnf))))
  exact ret_pf rfl rfl rfl

end Hk
