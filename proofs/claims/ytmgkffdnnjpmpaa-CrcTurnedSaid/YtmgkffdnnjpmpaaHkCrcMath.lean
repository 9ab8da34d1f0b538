/- The plain law of the sums: steps are linear; a table's word and a shift are eight steps. -/
import Derived.Test.YtmgkffdnnjpmpaaHkCrc
namespace Hk

theorem step_eq (w : BitVec 32) : step w = Step w := by
  unfold step Step
  have h1 : (w &&& 1#32).toNat = w.toNat % 2 := by
    rw [BitVec.toNat_and]
    show w.toNat &&& (2 ^ 1 - 1) = _
    rw [Nat.and_two_pow_sub_one_eq_mod]
  by_cases h : w.toNat % 2 = 1
  · rw [if_pos h]
    have : w &&& 1#32 = 1#32 := BitVec.eq_of_toNat_eq (by rw [h1, h]; rfl)
    rw [this]
    congr 1
  · rw [if_neg h]
    have : w &&& 1#32 = 0#32 := BitVec.eq_of_toNat_eq (by rw [h1]; show _ = 0; omega)
    rw [this]
    show (w >>> 1) ^^^ 0#32 = _
    simp

theorem Step_bit (w : BitVec 32) : Step w = (w >>> 1) ^^^ (if w.getLsbD 0 then 2197175160#32 else 0#32) := by
  unfold Step
  have : w.getLsbD 0 = decide (w.toNat % 2 = 1) := by
    rw [BitVec.getLsbD, Nat.testBit_zero]
  rw [this]
  by_cases h : w.toNat % 2 = 1
  · simp [h]
  · simp [h]

theorem Step_xor (a b : BitVec 32) : Step (a ^^^ b) = Step a ^^^ Step b := by
  rw [Step_bit, Step_bit, Step_bit, BitVec.getLsbD_xor, BitVec.ushiftRight_xor_distrib]
  generalize a >>> 1 = x
  generalize b >>> 1 = y
  generalize 2197175160#32 = p
  generalize a.getLsbD 0 = u
  generalize b.getLsbD 0 = v
  apply BitVec.eq_of_getLsbD_eq
  intro i _
  have z : (0#32).getLsbD i = false := by simp
  cases u <;> cases v <;> simp only [BitVec.getLsbD_xor, Bool.xor_false, Bool.xor_true, Bool.not_false, Bool.not_true, if_true, if_false, Bool.false_eq_true, z] <;>
    cases x.getLsbD i <;> cases y.getLsbD i <;> cases p.getLsbD i <;> rfl

def steps (n : Nat) (w : BitVec 32) : BitVec 32 := Nat.repeat Step n w

theorem steps_xor (n : Nat) (a b : BitVec 32) : steps n (a ^^^ b) = steps n a ^^^ steps n b := by
  induction n with
  | zero => rfl
  | succ n ih =>
    show Step (steps n (a ^^^ b)) = Step (steps n a) ^^^ Step (steps n b)
    rw [ih, Step_xor]

theorem steps_zero (n : Nat) : steps n 0#32 = 0#32 := by
  induction n with
  | zero => rfl
  | succ n ih => show Step (steps n 0#32) = _; rw [ih]; rfl

theorem steps_hi (h : BitVec 32) (n : Nat) (hn : n ≤ 8) (hz : ∀ i, i < 8 → h.getLsbD i = false) : steps n h = h >>> n := by
  induction n with
  | zero => simp [steps, Nat.repeat]
  | succ n ih =>
    show Step (steps n h) = _
    rw [ih (by omega), Step_bit]
    have : (h >>> n).getLsbD 0 = false := by simp [hz n (by omega)]
    rw [this]
    simp [BitVec.shiftRight_add]

theorem word_eq (i : Nat) : word i = steps 8 (BitVec.ofNat 32 i) := by
  unfold word steps
  have : step = Step := funext step_eq
  rw [this]

/-- A byte by the table is eight steps. -/
theorem byte_eq (w : BitVec 32) (c : UInt8) : crcByte w c = refByte w c := by
  unfold crcByte refByte
  rw [word_eq]
  show _ = steps 8 _
  have hx : w ^^^ c.toBitVec.setWidth 32 = BitVec.ofNat 32 (w.setWidth 8 ^^^ c.toBitVec).toNat ^^^ ((w >>> 8) <<< 8) := by
    apply BitVec.eq_of_getLsbD_eq
    intro i hi
    simp only [BitVec.getLsbD_xor, BitVec.getLsbD_setWidth, BitVec.getLsbD_shiftLeft, BitVec.getLsbD_ushiftRight, BitVec.ofNat_toNat]
    by_cases h8 : i < 8
    · simp [h8, hi]
    · have : c.toBitVec.getLsbD i = false := BitVec.getLsbD_of_ge _ _ (by omega)
      have e : 8 + (i - 8) = i := by omega
      simp [h8, hi, this, e]
  have e8 : ((w >>> 8) <<< 8) >>> 8 = w >>> 8 := by
    apply BitVec.eq_of_toNat_eq
    have := w.isLt
    simp only [BitVec.toNat_ushiftRight, BitVec.toNat_shiftLeft, Nat.shiftRight_eq_div_pow, Nat.shiftLeft_eq]
    omega
  rw [hx, steps_xor, steps_hi ((w >>> 8) <<< 8) 8 (Nat.le_refl _) (fun i hi => by simp [hi]), e8]

theorem fold_eq (s : List UInt8) (w : BitVec 32) : s.foldl crcByte w = s.foldl refByte w := by
  induction s generalizing w with
  | nil => rfl
  | cons c r ih => simp only [List.foldl_cons, byte_eq, ih]

theorem alive_eq : (~~~ (([49, 50, 51, 52, 53, 54, 55, 56, 57] : List UInt8).foldl crcByte (~~~ 0#32))) = 3808858755#32 := by decide +kernel

end Hk
