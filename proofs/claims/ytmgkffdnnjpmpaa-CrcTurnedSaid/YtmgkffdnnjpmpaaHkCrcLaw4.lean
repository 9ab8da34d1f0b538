/- The walk of the law CrcAround. -/
import Derived.Test.YtmgkffdnnjpmpaaHkCrcLaw2
namespace Hk
open Go Go.Proofs
set_option linter.unusedVariables false
set_option linter.unusedSimpArgs false
set_option maxRecDepth 100000

theorem Step_inj0 (x : BitVec 32) (h : Step x = 0#32) : x = 0#32 := by
  rw [Step_bit] at h
  have h31 : x.getLsbD 0 = false := by
    cases hx : x.getLsbD 0 with
    | false => rfl
    | true =>
      rw [hx, if_pos rfl] at h
      have := congrArg (fun y => y.getLsbD 31) h
      simp only [BitVec.getLsbD_xor, BitVec.getLsbD_ushiftRight] at this
      have e : x.getLsbD (1 + 31) = false := BitVec.getLsbD_of_ge _ _ (by omega)
      rw [e] at this
      exact absurd this (by decide)
  rw [h31] at h
  simp only [Bool.false_eq_true, if_false, BitVec.xor_zero] at h
  apply BitVec.eq_of_getLsbD_eq
  intro i hi
  cases i with
  | zero => rw [h31]; simp
  | succ i =>
    have := congrArg (fun y => y.getLsbD i) h
    simp only [BitVec.getLsbD_ushiftRight] at this
    rw [Nat.add_comm] at this
    rw [this]; simp

theorem steps_inj0 (n : Nat) (x : BitVec 32) (h : steps n x = 0#32) : x = 0#32 := by
  induction n with
  | zero => exact h
  | succ n ih => exact ih (Step_inj0 _ h)

theorem xor_eq0 {a b : BitVec 32} (h : a ^^^ b = 0#32) : a = b := by
  have := congrArg (a ^^^ ·) h
  simp only [xor_cancel, BitVec.xor_zero] at this
  exact this.symm

theorem fold_inj (s : List UInt8) {a b : BitVec 32} (h : fold a s = fold b s) : a = b := by
  rw [fold_start s a b] at h
  have : steps (8 * s.length) (a ^^^ b) = 0#32 := by
    have := congrArg (fold a s ^^^ ·) h
    simp only [xor_cancel, BitVec.xor_self] at this
    exact this.symm
  exact xor_eq0 (steps_inj0 _ _ this)

/-- Behind the same beginning, two texts of one length have like sums just if they have from the start. -/
theorem fold_pair (a b : List UInt8) (hl : a.length = b.length) (x y : BitVec 32) : fold x a = fold x b ↔ fold y a = fold y b := by
  have key : ∀ x y : BitVec 32, fold x a = fold x b → fold y a = fold y b := fun x y h => by
    rw [fold_start a x y, fold_start b x y, h, hl]
  exact ⟨key x y, key y x⟩

def crcSum (s : List UInt8) : BitVec 32 := ~~~ fold (~~~0#32) s

theorem crcSum_iff (s t : List UInt8) : crcSum s = crcSum t ↔ fold (~~~0#32) s = fold (~~~0#32) t := by
  unfold crcSum
  refine ⟨fun h => ?_, fun h => by rw [h]⟩
  have := congrArg (~~~ ·) h
  simpa using this

theorem fold_append (x : BitVec 32) (s t : List UInt8) : fold x (s ++ t) = fold (fold x s) t := by unfold fold; rw [List.foldl_append]

theorem around_iff (a b p q : List UInt8) (hl : a.length = b.length) : crcSum a = crcSum b ↔ crcSum (p ++ a ++ q) = crcSum (p ++ b ++ q) := by
  rw [crcSum_iff, crcSum_iff, fold_append, fold_append, fold_append, fold_append]
  refine ⟨fun h => ?_, fun h => ?_⟩
  · rw [(fold_pair a b hl _ (fold (~~~0#32) p)).1 h]
  · exact (fold_pair a b hl (fold (~~~0#32) p) _).1 (fold_inj q h)

theorem Sum_fn' (s : List UInt8) (hs : s.length < 4611686018427387904) : PF Try.prog 19 [.str s] (u32 (crcSum s)) := by
  have h := Sum_fn s hs
  rw [fold_eq] at h
  exact h

theorem eql_u32 (a b : BitVec 32) : intCm .eql (a.toNat : Int) (b.toNat : Int) = decide (a = b) := by
  simp only [intCm]
  by_cases h : a = b
  · subst h; simp
  · have : ¬ (a.toNat : Int) = b.toNat := fun e => h (BitVec.eq_of_toNat_eq (by omega))
    simp [h, this]

theorem CrcAround_fn (a b p q : List UInt8) : PF Try.prog 5 [.str a, .str b, .agg [.str p, .str q]] (.b true) := by
  refine pf_intro rf5_eq mixed rfl ?_
  ((conv => whnf) <;> (repeat (first | (refine And.intro (by first | omega | exact rfl) ?_; conv => whnf) | ((with_reducible refine bk_true ?_); conv => whnf) | ((with_reducible refine bk_false ?_); conv => whnf))))
  refine vcall_pf alive_fn rfl rfl ?_
  ((conv => whnf) <;> (repeat (first | (refine And.intro (by first | omega | exact rfl) ?_; conv => whnf) | ((with_reducible refine bk_true ?_); conv => whnf) | ((with_reducible refine bk_false ?_); conv => whnf))))
  refine bk_false ?_
  ((conv => whnf) <;> (repeat (first | (refine And.intro (by first | omega | exact rfl) ?_; conv => whnf) | ((with_reducible refine bk_true ?_); conv => whnf) | ((with_reducible refine bk_false ?_); conv => whnf))))
  (refine bk_split (fun hb => ?_) (fun hb => ?_))
  · ((conv => whnf) <;> (repeat (first | (refine And.intro (by first | omega | exact rfl) ?_; conv => whnf) | ((with_reducible refine bk_true ?_); conv => whnf) | ((with_reducible refine bk_false ?_); conv => whnf))))
    exact ret_pf rfl rfl rfl
  · have h1 : (a.length : Int) = b.length := neq_f hb
    ((conv => whnf) <;> (repeat (first | (refine And.intro (by first | omega | exact rfl) ?_; conv => whnf) | ((with_reducible refine bk_true ?_); conv => whnf) | ((with_reducible refine bk_false ?_); conv => whnf))))
    (refine bk_split (fun hb => ?_) (fun hb => ?_))
    · ((conv => whnf) <;> (repeat (first | (refine And.intro (by first | omega | exact rfl) ?_; conv => whnf) | ((with_reducible refine bk_true ?_); conv => whnf) | ((with_reducible refine bk_false ?_); conv => whnf))))
      exact ret_pf rfl rfl rfl
    · have h2 := gtr_f hb
      ((conv => whnf) <;> (repeat (first | (refine And.intro (by first | omega | exact rfl) ?_; conv => whnf) | ((with_reducible refine bk_true ?_); conv => whnf) | ((with_reducible refine bk_false ?_); conv => whnf))))
      refine ⟨_, rfl, _, rfl, ?_⟩
      ((conv => whnf) <;> (repeat (first | (refine And.intro (by first | omega | exact rfl) ?_; conv => whnf) | ((with_reducible refine bk_true ?_); conv => whnf) | ((with_reducible refine bk_false ?_); conv => whnf))))
      (refine bk_split (fun hb => ?_) (fun hb => ?_))
      · ((conv => whnf) <;> (repeat (first | (refine And.intro (by first | omega | exact rfl) ?_; conv => whnf) | ((with_reducible refine bk_true ?_); conv => whnf) | ((with_reducible refine bk_false ?_); conv => whnf))))
        exact ret_pf rfl rfl rfl
      · have h3 : (p.length : Int) ≤ 2000 := gtr_f hb
        ((conv => whnf) <;> (repeat (first | (refine And.intro (by first | omega | exact rfl) ?_; conv => whnf) | ((with_reducible refine bk_true ?_); conv => whnf) | ((with_reducible refine bk_false ?_); conv => whnf))))
        refine ⟨_, rfl, _, rfl, ?_⟩
        ((conv => whnf) <;> (repeat (first | (refine And.intro (by first | omega | exact rfl) ?_; conv => whnf) | ((with_reducible refine bk_true ?_); conv => whnf) | ((with_reducible refine bk_false ?_); conv => whnf))))
        (refine bk_split (fun hb => ?_) (fun hb => ?_))
        · ((conv => whnf) <;> (repeat (first | (refine And.intro (by first | omega | exact rfl) ?_; conv => whnf) | ((with_reducible refine bk_true ?_); conv => whnf) | ((with_reducible refine bk_false ?_); conv => whnf))))
          exact ret_pf rfl rfl rfl
        · have h4 : (q.length : Int) ≤ 2000 := gtr_f hb
          ((conv => whnf) <;> (repeat (first | (refine And.intro (by first | omega | exact rfl) ?_; conv => whnf) | ((with_reducible refine bk_true ?_); conv => whnf) | ((with_reducible refine bk_false ?_); conv => whnf))))
          refine ⟨_, rfl, _, rfl, ?_⟩
          ((conv => whnf) <;> (repeat (first | (refine And.intro (by first | omega | exact rfl) ?_; conv => whnf) | ((with_reducible refine bk_true ?_); conv => whnf) | ((with_reducible refine bk_false ?_); conv => whnf))))
          refine ⟨_, rfl, _, rfl, ?_⟩
          ((conv => whnf) <;> (repeat (first | (refine And.intro (by first | omega | exact rfl) ?_; conv => whnf) | ((with_reducible refine bk_true ?_); conv => whnf) | ((with_reducible refine bk_false ?_); conv => whnf))))
          refine And.intro (by simp only [List.length_append]; omega) ?_
          ((conv => whnf) <;> (repeat (first | (refine And.intro (by first | omega | exact rfl) ?_; conv => whnf) | ((with_reducible refine bk_true ?_); conv => whnf) | ((with_reducible refine bk_false ?_); conv => whnf))))
          refine ⟨_, rfl, _, rfl, ?_⟩
          ((conv => whnf) <;> (repeat (first | (refine And.intro (by first | omega | exact rfl) ?_; conv => whnf) | ((with_reducible refine bk_true ?_); conv => whnf) | ((with_reducible refine bk_false ?_); conv => whnf))))
          refine ⟨_, rfl, _, rfl, ?_⟩
          ((conv => whnf) <;> (repeat (first | (refine And.intro (by first | omega | exact rfl) ?_; conv => whnf) | ((with_reducible refine bk_true ?_); conv => whnf) | ((with_reducible refine bk_false ?_); conv => whnf))))
          refine And.intro (by simp only [List.length_append]; omega) ?_
          ((conv => whnf) <;> (repeat (first | (refine And.intro (by first | omega | exact rfl) ?_; conv => whnf) | ((with_reducible refine bk_true ?_); conv => whnf) | ((with_reducible refine bk_false ?_); conv => whnf))))
          refine And.intro ?_ trivial
          refine vcall_pf (Sum_fn' a (by omega)) rfl rfl ?_
          ((conv => whnf) <;> (repeat (first | (refine And.intro (by first | omega | exact rfl) ?_; conv => whnf) | ((with_reducible refine bk_true ?_); conv => whnf) | ((with_reducible refine bk_false ?_); conv => whnf))))
          refine And.intro ?_ trivial
          refine vcall_pf (Sum_fn' b (by omega)) rfl rfl ?_
          ((conv => whnf) <;> (repeat (first | (refine And.intro (by first | omega | exact rfl) ?_; conv => whnf) | ((with_reducible refine bk_true ?_); conv => whnf) | ((with_reducible refine bk_false ?_); conv => whnf))))
          refine And.intro ?_ trivial
          refine vcall_pf (Sum_fn' (p ++ a ++ q) (by simp only [List.length_append]; omega)) rfl rfl ?_
          ((conv => whnf) <;> (repeat (first | (refine And.intro (by first | omega | exact rfl) ?_; conv => whnf) | ((with_reducible refine bk_true ?_); conv => whnf) | ((with_reducible refine bk_false ?_); conv => whnf))))
          refine And.intro ?_ trivial
          refine vcall_pf (Sum_fn' (p ++ b ++ q) (by simp only [List.length_append]; omega)) rfl rfl ?_
          ((conv => whnf) <;> (repeat (first | (refine And.intro (by first | omega | exact rfl) ?_; conv => whnf) | ((with_reducible refine bk_true ?_); conv => whnf) | ((with_reducible refine bk_false ?_); conv => whnf))))
          refine ret_pf rfl rfl ?_
          refine congrArg PV.b ?_
          show (intCm .eql _ _ == intCm .eql _ _) = true
          rw [eql_u32, eql_u32]
          have := around_iff a b p q (by omega)
          by_cases h : crcSum a = crcSum b
          · rw [decide_eq_true h, decide_eq_true (this.1 h)]; rfl
          · rw [decide_eq_false h, decide_eq_false (fun h' => h (this.2 h'))]; rfl

end Hk
