/- The walks of the laws CrcJoins, CrcRaw, CrcTurned, CrcAround. -/
import Derived.Test.YtmgkffdnnjpmpaaHkCrcZ2
import Derived.Test.YtmgkffdnnjpmpaaHkCrcLaw
namespace Hk
open Go Go.Proofs
set_option linter.unusedVariables false
set_option linter.unusedSimpArgs false
set_option maxRecDepth 100000

def fold (w : BitVec 32) (s : List UInt8) : BitVec 32 := s.foldl refByte w

theorem refByte_xor (a d : BitVec 32) (c : UInt8) : refByte (a ^^^ d) c = refByte a c ^^^ steps 8 d := by
  show steps 8 _ = steps 8 _ ^^^ steps 8 d
  rw [← steps_xor]
  congr 1
  rw [BitVec.xor_assoc, BitVec.xor_comm d, ← BitVec.xor_assoc]

/-- The sums are affine: what another start makes. -/
theorem fold_xor (s : List UInt8) (a d : BitVec 32) : fold (a ^^^ d) s = fold a s ^^^ steps (8 * s.length) d := by
  induction s generalizing a d with
  | nil => rfl
  | cons c r ih =>
    show fold (refByte (a ^^^ d) c) r = fold (refByte a c) r ^^^ _
    rw [refByte_xor, ih, ← steps_add]
    congr 2

theorem xor_cancel (a b : BitVec 32) : a ^^^ (a ^^^ b) = b := by
  rw [← BitVec.xor_assoc, BitVec.xor_self, BitVec.zero_xor]

theorem fold_start (s : List UInt8) (a b : BitVec 32) : fold b s = fold a s ^^^ steps (8 * s.length) (a ^^^ b) := by
  have := fold_xor s a (a ^^^ b)
  rwa [xor_cancel] at this

theorem not_xor (a b : BitVec 32) : ~~~(a ^^^ b) = ~~~a ^^^ b := by
  apply BitVec.eq_of_getLsbD_eq
  intro i hi
  simp [hi]

theorem not_zero_xor (x : BitVec 32) : ~~~(0#32) ^^^ x = ~~~x := by
  rw [← not_xor, BitVec.zero_xor]

/-- The sum of two texts, of their sums. -/
theorem join_eq (s t : List UInt8) : steps (8 * t.length) (~~~ fold (~~~0#32) s) ^^^ ~~~ fold (~~~0#32) t = ~~~ fold (~~~0#32) (s ++ t) := by
  have h1 : fold (~~~0#32) (s ++ t) = fold (fold (~~~0#32) s) t := by unfold fold; rw [List.foldl_append]
  have h2 := fold_start t (~~~0#32) (fold (~~~0#32) s)
  rw [not_zero_xor] at h2
  rw [h1, h2, not_xor, BitVec.xor_comm]

theorem CrcJoins_fn (s t : List UInt8) : PF Try.prog 7 [.str s, .str t] (.b true) := by
  have e : ∀ n : Int, intCm .eql n n = true := fun n => by simp [intCm]
  refine pf_intro rf7_eq mixed rfl ?_
  ((conv => whnf) <;> (repeat (first | (refine And.intro (by first | omega | rfl) ?_; conv => whnf) | ((with_reducible refine bk_true ?_); conv => whnf) | ((with_reducible refine bk_false ?_); conv => whnf))))
  refine vcall_pf alive_fn rfl rfl ?_
  ((conv => whnf) <;> (repeat (first | (refine And.intro (by first | omega | rfl) ?_; conv => whnf) | ((with_reducible refine bk_true ?_); conv => whnf) | ((with_reducible refine bk_false ?_); conv => whnf))))
  refine bk_false ?_
  ((conv => whnf) <;> (repeat (first | (refine And.intro (by first | omega | rfl) ?_; conv => whnf) | ((with_reducible refine bk_true ?_); conv => whnf) | ((with_reducible refine bk_false ?_); conv => whnf))))
  (refine bk_split (fun hb => ?_) (fun hb => ?_))
  · ((conv => whnf) <;> (repeat (first | (refine And.intro (by first | omega | rfl) ?_; conv => whnf) | ((with_reducible refine bk_true ?_); conv => whnf) | ((with_reducible refine bk_false ?_); conv => whnf))))
    exact ret_pf rfl rfl rfl
  · have h1 := gtr_f hb
    ((conv => whnf) <;> (repeat (first | (refine And.intro (by first | omega | rfl) ?_; conv => whnf) | ((with_reducible refine bk_true ?_); conv => whnf) | ((with_reducible refine bk_false ?_); conv => whnf))))
    (refine bk_split (fun hb => ?_) (fun hb => ?_))
    · ((conv => whnf) <;> (repeat (first | (refine And.intro (by first | omega | rfl) ?_; conv => whnf) | ((with_reducible refine bk_true ?_); conv => whnf) | ((with_reducible refine bk_false ?_); conv => whnf))))
      exact ret_pf rfl rfl rfl
    · have h2 := gtr_f hb
      have hs : s.length < 4611686018427387904 := by omega
      have ht : t.length < 4611686018427387904 := by omega
      have hst : (s ++ t).length < 4611686018427387904 := by simp; omega
      ((conv => whnf) <;> (repeat (first | (refine And.intro (by first | omega | rfl) ?_; conv => whnf) | ((with_reducible refine bk_true ?_); conv => whnf) | ((with_reducible refine bk_false ?_); conv => whnf))))
      refine vcall_pf (RefSum_fn (s ++ t) hst) rfl rfl ?_
      ((conv => whnf) <;> (repeat (first | (refine And.intro (by first | omega | rfl) ?_; conv => whnf) | ((with_reducible refine bk_true ?_); conv => whnf) | ((with_reducible refine bk_false ?_); conv => whnf))))
      refine vcall_pf (Sum_fn s hs) rfl rfl ?_
      ((conv => whnf) <;> (repeat (first | (refine And.intro (by first | omega | rfl) ?_; conv => whnf) | ((with_reducible refine bk_true ?_); conv => whnf) | ((with_reducible refine bk_false ?_); conv => whnf))))
      refine vcall_pf (Sum_fn t ht) rfl rfl ?_
      rw [fold_eq, fold_eq]
      ((conv => whnf) <;> (repeat (first | (refine And.intro (by first | omega | rfl) ?_; conv => whnf) | ((with_reducible refine bk_true ?_); conv => whnf) | ((with_reducible refine bk_false ?_); conv => whnf))))
      refine vcall_pf (Join_fn _ _ (t.length : Int) (by omega)) rfl rfl ?_
      have e1 : steps (8 * (t.length : Int).toNat) (~~~ s.foldl refByte (~~~0#32)) ^^^ ~~~ t.foldl refByte (~~~0#32) = ~~~ (s ++ t).foldl refByte (~~~0#32) := join_eq s t
      rw [e1]
      ((conv => whnf) <;> (repeat (first | (refine And.intro (by first | omega | rfl) ?_; conv => whnf) | ((with_reducible refine bk_true ?_); conv => whnf) | ((with_reducible refine bk_false ?_); conv => whnf))))
      rw [e]
      ((conv => whnf) <;> (repeat (first | (refine And.intro (by first | omega | rfl) ?_; conv => whnf) | ((with_reducible refine bk_true ?_); conv => whnf) | ((with_reducible refine bk_false ?_); conv => whnf))))
      refine vcall_pf (Sum_fn s hs) rfl rfl ?_
      ((conv => whnf) <;> (repeat (first | (refine And.intro (by first | omega | rfl) ?_; conv => whnf) | ((with_reducible refine bk_true ?_); conv => whnf) | ((with_reducible refine bk_false ?_); conv => whnf))))
      refine vcall_pf (More_fn _ t ht) rfl rfl ?_
      have e2 : ~~~ t.foldl crcByte (~~~~~~ s.foldl crcByte (~~~0#32)) = ~~~ (s ++ t).foldl refByte (~~~0#32) := by
        rw [BitVec.not_not, fold_eq, fold_eq, List.foldl_append]
      rw [e2]
      ((conv => whnf) <;> (repeat (first | (refine And.intro (by first | omega | rfl) ?_; conv => whnf) | ((with_reducible refine bk_true ?_); conv => whnf) | ((with_reducible refine bk_false ?_); conv => whnf))))
      rw [e]
      ((conv => whnf) <;> (repeat (first | (refine And.intro (by first | omega | rfl) ?_; conv => whnf) | ((with_reducible refine bk_true ?_); conv => whnf) | ((with_reducible refine bk_false ?_); conv => whnf))))
      refine vcall_pf (Sum_fn (s ++ t) hst) rfl rfl ?_
      ((conv => whnf) <;> (repeat (first | (refine And.intro (by first | omega | rfl) ?_; conv => whnf) | ((with_reducible refine bk_true ?_); conv => whnf) | ((with_reducible refine bk_false ?_); conv => whnf))))
      exact ret_pf rfl rfl (congrArg PV.b (by rw [fold_eq (s ++ t)]; exact e _))

end Hk
