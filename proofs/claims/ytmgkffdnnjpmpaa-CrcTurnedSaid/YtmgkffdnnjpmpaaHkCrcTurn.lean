/- The plain law: four bytes turned in a row turn the sum, but by nothing. -/
import Derived.Test.YtmgkffdnnjpmpaaHkCrcLaw4
namespace Hk
set_option linter.unusedVariables false

def turn (s : List UInt8) (k : Nat) (y : Nat → UInt8) : Nat → List UInt8
  | 0 => s
  | i + 1 => (turn s k y i).set (k + i) ((turn s k y i).getD (k + i) 0 ^^^ y i)

theorem turn_len (s : List UInt8) (k : Nat) (y : Nat → UInt8) (i : Nat) : (turn s k y i).length = s.length := by
  induction i with
  | zero => rfl
  | succ i ih => simp [turn, ih]

/-- A byte turned: the word is turned by eight steps of it. -/
theorem refByte_turn (w : BitVec 32) (c y : UInt8) : refByte w (c ^^^ y) = refByte w c ^^^ steps 8 (y.toBitVec.setWidth 32) := by
  show steps 8 _ = steps 8 _ ^^^ _
  rw [← steps_xor]
  congr 1
  have : (c ^^^ y).toBitVec.setWidth 32 = c.toBitVec.setWidth 32 ^^^ y.toBitVec.setWidth 32 := by
    show (c.toBitVec ^^^ y.toBitVec).setWidth 32 = _
    rw [BitVec.setWidth_xor]
  rw [this, BitVec.xor_assoc]

/-- Eight steps undo a shift by a byte. -/
theorem steps_shl (v : BitVec 32) (h : v.toNat < 2 ^ 24) : steps 8 (v <<< 8) = v := by
  rw [steps_hi (v <<< 8) 8 (Nat.le_refl _) (fun i hi => by simp [hi])]
  apply BitVec.eq_of_toNat_eq
  simp only [BitVec.toNat_ushiftRight, BitVec.toNat_shiftLeft, Nat.shiftRight_eq_div_pow, Nat.shiftLeft_eq]
  omega

def w32 (y : UInt8) : BitVec 32 := y.toBitVec.setWidth 32

theorem w32_lt (y : UInt8) : (w32 y).toNat < 256 := by
  unfold w32
  rw [BitVec.toNat_setWidth]
  have := y.toBitVec.isLt
  omega

/-- What four turned bytes turn. -/
theorem four (w : BitVec 32) (c0 c1 c2 c3 y0 y1 y2 y3 : UInt8) :
    fold w [c0 ^^^ y0, c1 ^^^ y1, c2 ^^^ y2, c3 ^^^ y3] = fold w [c0, c1, c2, c3] ^^^ (steps 8 (steps 8 (steps 8 (steps 8 (w32 y0) ^^^ w32 y1) ^^^ w32 y2) ^^^ w32 y3)) := by
  show refByte (refByte (refByte (refByte w (c0 ^^^ y0)) (c1 ^^^ y1)) (c2 ^^^ y2)) (c3 ^^^ y3) = refByte (refByte (refByte (refByte w c0) c1) c2) c3 ^^^ _
  simp only [refByte_turn, refByte_xor, steps_xor, BitVec.xor_assoc]
  rfl

def Top (n : Nat) (v : BitVec 32) : Prop := ∀ i, n ≤ i → v.getLsbD i = false

theorem Top.mono {n m : Nat} {v : BitVec 32} (h : Top n v) (hm : n ≤ m) : Top m v := fun i hi => h i (by omega)
theorem w32_top (y : UInt8) : Top 8 (w32 y) := fun i hi => by
  unfold w32
  rw [BitVec.getLsbD_setWidth, BitVec.getLsbD_of_ge y.toBitVec i (by omega)]; simp
theorem Top.shl_xor {n : Nat} {v a : BitVec 32} (h : Top n v) (ha : Top 8 a) : Top (n + 8) ((v <<< 8) ^^^ a) := fun i hi => by
  rw [BitVec.getLsbD_xor, BitVec.getLsbD_shiftLeft, ha i (by omega), h (i - 8) (by omega)]; simp

theorem steps_back {x v : BitVec 32} (hv : Top 24 v) (h : steps 8 x = v) : x = v <<< 8 := by
  have e : steps 8 (v <<< 8) = v := by
    rw [steps_hi (v <<< 8) 8 (Nat.le_refl _) (fun i hi => by simp [hi])]
    apply BitVec.eq_of_getLsbD_eq
    intro i hi
    rw [BitVec.getLsbD_ushiftRight, BitVec.getLsbD_shiftLeft]
    by_cases h24 : 24 ≤ i
    · rw [hv i h24]; simp; omega
    · have h1 : 8 + i < 32 := by omega
      simp [h1]
  apply xor_eq0
  apply steps_inj0 8
  rw [steps_xor, h, e, BitVec.xor_self]

theorem split8 {a b : BitVec 32} (ha : Top 8 a) (hb : Top 24 b) (h : a = b <<< 8) : a = 0#32 ∧ b = 0#32 := by
  have bit : ∀ i, a.getLsbD i = (b <<< 8).getLsbD i := fun i => by rw [h]
  refine ⟨?_, ?_⟩
  · apply BitVec.eq_of_getLsbD_eq
    intro i hi
    by_cases h8 : 8 ≤ i
    · rw [ha i h8]; simp
    · rw [bit i, BitVec.getLsbD_shiftLeft]
      have : i < 8 := by omega
      simp [this]
  · apply BitVec.eq_of_getLsbD_eq
    intro i hi
    by_cases h24 : 24 ≤ i
    · rw [hb i h24]; simp
    · have h1 := bit (i + 8)
      rw [ha (i + 8) (by omega), BitVec.getLsbD_shiftLeft] at h1
      have h2 : i + 8 < 32 := by omega
      simp [h2] at h1
      rw [h1]; simp

theorem four0 (y0 y1 y2 y3 : UInt8) (h : steps 8 (steps 8 (steps 8 (steps 8 (w32 y0) ^^^ w32 y1) ^^^ w32 y2) ^^^ w32 y3) = 0#32) : w32 y0 = 0#32 ∧ w32 y1 = 0#32 ∧ w32 y2 = 0#32 ∧ w32 y3 = 0#32 := by
  have move : ∀ {a b c : BitVec 32}, a ^^^ b = c → a = c ^^^ b := fun {a b c} e => by rw [← e, BitVec.xor_assoc, BitVec.xor_self, BitVec.xor_zero]
  have h3 := xor_eq0 (steps_inj0 8 _ h)
  have t3 := w32_top y3
  have h2 := move (steps_back (t3.mono (by omega)) h3)
  have t2 := t3.shl_xor (w32_top y2)
  have h1 := move (steps_back (t2.mono (by omega)) h2)
  have t1 := t2.shl_xor (w32_top y1)
  have h0 := steps_back t1 h1
  obtain ⟨z0, e1⟩ := split8 (w32_top y0) t1 h0
  obtain ⟨z1, e2⟩ := split8 (w32_top y1) (t2.mono (by omega)) (xor_eq0 e1).symm
  obtain ⟨z2, z3⟩ := split8 (w32_top y2) (t3.mono (by omega)) (xor_eq0 e2).symm
  exact ⟨z0, z1, z2, z3⟩

end Hk
