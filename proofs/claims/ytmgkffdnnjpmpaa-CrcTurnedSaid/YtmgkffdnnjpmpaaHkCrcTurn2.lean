/- The plain law of CrcTurned, joined to its walk. -/
import Derived.Test.YtmgkffdnnjpmpaaHkCrcTurn
namespace Hk
open Go
set_option linter.unusedVariables false
set_option linter.unusedSimpArgs false

theorem turn_split (p q : List UInt8) (c0 c1 c2 c3 : UInt8) (y : Nat → UInt8) :
    turn (p ++ [c0, c1, c2, c3] ++ q) p.length y 4 = p ++ [c0 ^^^ y 0, c1 ^^^ y 1, c2 ^^^ y 2, c3 ^^^ y 3] ++ q := by
  have e1 : ∀ (l : List UInt8) (i : Nat) (v : UInt8), (p ++ l).set (p.length + i) v = p ++ l.set i v := fun l i v => by
    rw [List.set_append_right _ _ (by omega)]; congr 2; omega
  have e2 : ∀ (l : List UInt8) (i : Nat), (p ++ l).getD (p.length + i) 0 = l.getD i 0 := fun l i => by
    rw [List.getD_eq_getElem?_getD, List.getD_eq_getElem?_getD, List.getElem?_append_right (by omega)]; congr 2; omega
  simp only [List.append_assoc]
  simp only [turn, e1, e2]
  rfl

theorem four_split (s : List UInt8) (k : Nat) (h : k + 4 ≤ s.length) : ∃ p q c0 c1 c2 c3, s = p ++ [c0, c1, c2, c3] ++ q ∧ p.length = k := by
  refine ⟨s.take k, s.drop (k + 4), s[k]'(by omega), s[k + 1]'(by omega), s[k + 2]'(by omega), s[k + 3]'(by omega), ?_, by simp; omega⟩
  have d : ∀ i (hi : i < s.length), s.drop i = s[i] :: s.drop (i + 1) := fun i hi => List.drop_eq_getElem_cons hi
  conv => lhs; rw [← List.take_append_drop k s, d k (by omega), d (k + 1) (by omega), d (k + 2) (by omega), d (k + 3) (by omega)]
  simp

theorem turned_iff (s : List UInt8) (k : Nat) (y : Nat → UInt8) (h : k + 4 ≤ s.length) : crcSum (turn s k y 4) = crcSum s ↔ (w32 (y 0) = 0#32 ∧ w32 (y 1) = 0#32 ∧ w32 (y 2) = 0#32 ∧ w32 (y 3) = 0#32) := by
  obtain ⟨p, q, c0, c1, c2, c3, rfl, rfl⟩ := four_split s k h
  rw [turn_split, crcSum_iff, fold_append, fold_append, fold_append, fold_append, four]
  refine ⟨fun h => ?_, fun ⟨h0, h1, h2, h3⟩ => ?_⟩
  · have := fold_inj q h
    have := congrArg (fold (fold (~~~0#32) p) [c0, c1, c2, c3] ^^^ ·) this
    simp only [xor_cancel, BitVec.xor_self] at this
    exact four0 _ _ _ _ this
  · rw [h0, h1, h2, h3]
    simp only [steps_zero, BitVec.xor_zero]

end Hk
