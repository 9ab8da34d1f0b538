/- The walks of Find, alive and KmpNone. -/
import Derived.Test.YtmgkffdnnjpmpaaHkKmp4
namespace Hk
open Go Go.Proofs
set_option linter.unusedVariables false
set_option maxRecDepth 100000

instance (s d : List UInt8) (a : Nat) (is : Bool) : Decidable (FindR s d a is) := inferInstanceAs (Decidable (_ ∧ _))

theorem hold_nil (d : List UInt8) : Hold d [] 0 := ⟨IsB.zero _ _, fun k hk => hk.2.1⟩

theorem find_fn (s d : List UInt8) (most : Int) (a : Nat) (is : Bool) (h1 : 1 ≤ d.length) (h2 : d.length ≤ 64) (hs : s.length < 2 ^ 40) (hf : FindR s d a is) :
    Fn Try.prog 64 ([.str s, .str d, .int .i64 most].map .p) [] [] (fun r H' => r = .tup [.p (i64 a), .p (.b (is && decide ((a : Int) ≤ most)))] ∧ H' = []) := by
  refine fn_intro rf64_eq kmixed (F := Fn Try.prog) (fun _ _ _ _ _ h => h) rfl ?_
  ((conv => whnf) <;> (repeat (first | (refine And.intro (by first | omega | exact rfl) ?_; conv => whnf) | ((with_reducible refine bk_true ?_); conv => whnf) | ((with_reducible refine bk_false ?_); conv => whnf) | ((with_reducible refine bk_nt ?_); conv => whnf) | ((with_reducible refine bk_nf ?_); conv => whnf))))
  refine vcall_new (New_yes d h1 h2) rfl rfl ?_
  rintro r H' ⟨rfl, rfl⟩
  ((conv => whnf) <;> (repeat (first | (refine And.intro (by first | omega | exact rfl) ?_; conv => whnf) | ((with_reducible refine bk_true ?_); conv => whnf) | ((with_reducible refine bk_false ?_); conv => whnf) | ((with_reducible refine bk_nt ?_); conv => whnf) | ((with_reducible refine bk_nf ?_); conv => whnf))))
  ((first | refine bk_true ?_ | refine bk_false ?_) <;> ((conv => whnf) <;> (repeat (first | (refine And.intro (by first | omega | exact rfl) ?_; conv => whnf) | ((with_reducible refine bk_true ?_); conv => whnf) | ((with_reducible refine bk_false ?_); conv => whnf) | ((with_reducible refine bk_nt ?_); conv => whnf) | ((with_reducible refine bk_nf ?_); conv => whnf)))))
  refine vcall_own [0] (feed_fn d [] s 0 0 (hold_nil d) h1 h2 (Nat.le_refl _) (by simp; omega)) rfl rfl (.cons (.ptr rfl) (.cons (.pe rfl) .nil)) ?_
  have none0 : ¬ IsB d (List.take 0 s) d.length := fun h => by have : d.length ≤ 0 := h.2.1; omega
  rintro r H' (⟨n, s', g1, g2, g3, g4, rfl, rfl⟩ | ⟨h', s', g1, g2, g3, g4, rfl, rfl⟩)
  · simp only [List.nil_append, List.length_nil, Nat.zero_add] at g2 g3
    obtain ⟨rfl, e⟩ := found h1 (show n + 1 ≤ s.length from g1) g2 (fun k hk => by
      rcases Nat.eq_zero_or_pos k with h | h
      · subst h; exact none0
      · exact g3 k h hk) hf
    ((conv => whnf) <;> (repeat (first | (refine And.intro (by first | omega | exact rfl) ?_; conv => whnf) | ((with_reducible refine bk_true ?_); conv => whnf) | ((with_reducible refine bk_false ?_); conv => whnf) | ((with_reducible refine bk_nt ?_); conv => whnf) | ((with_reducible refine bk_nf ?_); conv => whnf))))
    (refine ⟨_, _, ⟨rfl, rfl⟩, ⟨rfl, rfl⟩, ?_, ?_⟩ <;> (repeat' (first | exact HLe.nil _ | refine HLe.cons ?_ ?_ | exact KLe.ptr rfl | exact KLe.sl rfl (.inl rfl) | exact KLe.csl rfl | refine KLe.pe ?_ | refine KLe.tup ?_ | refine KLe.agg ?_ | refine BLe.pe ?_ | refine BLe.mx ?_ | exact KLeL.nil | refine KLe.fn ?_ ?_ | refine KLeL.cons ?_ ?_ | exact KLe.und _ | exact BLe.dead _)) <;> (try with_reducible rfl))
    · refine congrArg (PV.int .i64) ?_
      rw [sub64 (by omega) (by omega)]; omega
    · refine congrArg PV.b ?_
      show decide (intAr _ _ _ _ ≤ most) = _
      rw [sub64 (by omega) (by omega), Bool.true_and, show ((n + 1 : Nat) : Int) - d.length = a by omega]
  · simp only [List.nil_append, List.length_nil, Nat.zero_add] at g1 g4
    obtain ⟨rfl, e, hle⟩ := unfound g1 g2 (fun k hk => by
      rcases Nat.eq_zero_or_pos k with h | h
      · subst h; exact none0
      · exact g4 k h hk) hf
    ((conv => whnf) <;> (repeat (first | (refine And.intro (by first | omega | exact rfl) ?_; conv => whnf) | ((with_reducible refine bk_true ?_); conv => whnf) | ((with_reducible refine bk_false ?_); conv => whnf) | ((with_reducible refine bk_nt ?_); conv => whnf) | ((with_reducible refine bk_nf ?_); conv => whnf))))
    refine vcall_rd [0] (held_fn _ _ _ _ _) rfl rfl (.cons (.ptr rfl) .nil) ?_
    ((conv => whnf) <;> (repeat (first | (refine And.intro (by first | omega | exact rfl) ?_; conv => whnf) | ((with_reducible refine bk_true ?_); conv => whnf) | ((with_reducible refine bk_false ?_); conv => whnf) | ((with_reducible refine bk_nt ?_); conv => whnf) | ((with_reducible refine bk_nf ?_); conv => whnf))))
    (refine ⟨_, _, ⟨rfl, rfl⟩, ⟨rfl, rfl⟩, ?_, ?_⟩ <;> (repeat' (first | exact HLe.nil _ | refine HLe.cons ?_ ?_ | exact KLe.ptr rfl | exact KLe.sl rfl (.inl rfl) | exact KLe.csl rfl | refine KLe.pe ?_ | refine KLe.tup ?_ | refine KLe.agg ?_ | refine BLe.pe ?_ | refine BLe.mx ?_ | exact KLeL.nil | refine KLe.fn ?_ ?_ | refine KLeL.cons ?_ ?_ | exact KLe.und _ | exact BLe.dead _)) <;> (try with_reducible rfl))
    · refine congrArg (PV.int .i64) ?_
      rw [sub64 (by omega) (by omega)]; omega
    · rfl

theorem alive_fn : PF Try.prog 26 [] (.b true) := by
  refine pf_intro rf26_eq kmixed rfl ?_
  ((conv => whnf) <;> (repeat (first | (refine And.intro (by first | omega | exact rfl) ?_; conv => whnf) | ((with_reducible refine bk_true ?_); conv => whnf) | ((with_reducible refine bk_false ?_); conv => whnf) | ((with_reducible refine bk_nt ?_); conv => whnf) | ((with_reducible refine bk_nf ?_); conv => whnf))))
  ((repeat' ((first | refine bk_true ?_ | refine bk_false ?_) <;> ((conv => whnf) <;> (repeat (first | (refine And.intro (by first | omega | exact rfl) ?_; conv => whnf) | ((with_reducible refine bk_true ?_); conv => whnf) | ((with_reducible refine bk_false ?_); conv => whnf) | ((with_reducible refine bk_nt ?_); conv => whnf) | ((with_reducible refine bk_nf ?_); conv => whnf)))))))
  refine vcall_new (find_fn [97, 97, 98, 97, 98] [97, 98] 9 1 true (by decide) (by decide) (by decide) (by decide)) rfl rfl ?_
  rintro r H' ⟨rfl, rfl⟩
  ((conv => whnf) <;> (repeat (first | (refine And.intro (by first | omega | exact rfl) ?_; conv => whnf) | ((with_reducible refine bk_true ?_); conv => whnf) | ((with_reducible refine bk_false ?_); conv => whnf) | ((with_reducible refine bk_nt ?_); conv => whnf) | ((with_reducible refine bk_nf ?_); conv => whnf))))
  ((repeat' ((first | refine bk_true ?_ | refine bk_false ?_) <;> ((conv => whnf) <;> (repeat (first | (refine And.intro (by first | omega | exact rfl) ?_; conv => whnf) | ((with_reducible refine bk_true ?_); conv => whnf) | ((with_reducible refine bk_false ?_); conv => whnf) | ((with_reducible refine bk_nt ?_); conv => whnf) | ((with_reducible refine bk_nf ?_); conv => whnf)))))))
  refine vcall_new (find_fn [120, 97] [97, 98] 9 1 false (by decide) (by decide) (by decide) (by decide)) rfl rfl ?_
  rintro r H' ⟨rfl, rfl⟩
  ((conv => whnf) <;> (repeat (first | (refine And.intro (by first | omega | exact rfl) ?_; conv => whnf) | ((with_reducible refine bk_true ?_); conv => whnf) | ((with_reducible refine bk_false ?_); conv => whnf) | ((with_reducible refine bk_nt ?_); conv => whnf) | ((with_reducible refine bk_nf ?_); conv => whnf))))
  ((repeat' ((first | refine bk_true ?_ | refine bk_false ?_) <;> ((conv => whnf) <;> (repeat (first | (refine And.intro (by first | omega | exact rfl) ?_; conv => whnf) | ((with_reducible refine bk_true ?_); conv => whnf) | ((with_reducible refine bk_false ?_); conv => whnf) | ((with_reducible refine bk_nt ?_); conv => whnf) | ((with_reducible refine bk_nf ?_); conv => whnf)))))))
  refine vcall_new (New_yes [97, 98] (by decide) (by decide)) rfl rfl ?_
  rintro r H' ⟨rfl, rfl⟩
  ((conv => whnf) <;> (repeat (first | (refine And.intro (by first | omega | exact rfl) ?_; conv => whnf) | ((with_reducible refine bk_true ?_); conv => whnf) | ((with_reducible refine bk_false ?_); conv => whnf) | ((with_reducible refine bk_nt ?_); conv => whnf) | ((with_reducible refine bk_nf ?_); conv => whnf))))
  ((repeat' ((first | refine bk_true ?_ | refine bk_false ?_) <;> ((conv => whnf) <;> (repeat (first | (refine And.intro (by first | omega | exact rfl) ?_; conv => whnf) | ((with_reducible refine bk_true ?_); conv => whnf) | ((with_reducible refine bk_false ?_); conv => whnf) | ((with_reducible refine bk_nt ?_); conv => whnf) | ((with_reducible refine bk_nf ?_); conv => whnf)))))))
  refine vcall_own [0] (feed_fn [97, 98] [] [97, 97] 0 0 (hold_nil _) (by decide) (by decide) (Nat.le_refl _) (by decide)) rfl rfl (.cons (.ptr rfl) (.cons (.pe rfl) .nil)) ?_
  rintro r H' (⟨n, s', g1, g2, g3, g4, rfl, rfl⟩ | ⟨h', s', g1, g2, g3, g4, rfl, rfl⟩)
  · exfalso
    match n, g1 with
    | 0, _ => revert g2; decide
    | 1, _ => revert g2; decide
  ((conv => whnf) <;> (repeat (first | (refine And.intro (by first | omega | exact rfl) ?_; conv => whnf) | ((with_reducible refine bk_true ?_); conv => whnf) | ((with_reducible refine bk_false ?_); conv => whnf) | ((with_reducible refine bk_nt ?_); conv => whnf) | ((with_reducible refine bk_nf ?_); conv => whnf))))
  ((repeat' ((first | refine bk_true ?_ | refine bk_false ?_) <;> ((conv => whnf) <;> (repeat (first | (refine And.intro (by first | omega | exact rfl) ?_; conv => whnf) | ((with_reducible refine bk_true ?_); conv => whnf) | ((with_reducible refine bk_false ?_); conv => whnf) | ((with_reducible refine bk_nt ?_); conv => whnf) | ((with_reducible refine bk_nf ?_); conv => whnf)))))))
  refine vcall_own [0] (feed_fn [97, 98] [97, 97] [98] h' s' g1 g2 (by decide) g3 (by decide)) rfl rfl (.cons (.ptr rfl) (.cons (.pe rfl) .nil)) ?_
  rintro r H' (⟨n, s'', f1, f2, f3, f4, rfl, rfl⟩ | ⟨h'', s'', f1, f2, f3, f4, rfl, rfl⟩)
  · match n, f1 with
    | 0, _ =>
      ((conv => whnf) <;> (repeat (first | (refine And.intro (by first | omega | exact rfl) ?_; conv => whnf) | ((with_reducible refine bk_true ?_); conv => whnf) | ((with_reducible refine bk_false ?_); conv => whnf) | ((with_reducible refine bk_nt ?_); conv => whnf) | ((with_reducible refine bk_nf ?_); conv => whnf))))
      ((repeat' ((first | refine bk_true ?_ | refine bk_false ?_) <;> ((conv => whnf) <;> (repeat (first | (refine And.intro (by first | omega | exact rfl) ?_; conv => whnf) | ((with_reducible refine bk_true ?_); conv => whnf) | ((with_reducible refine bk_false ?_); conv => whnf) | ((with_reducible refine bk_nt ?_); conv => whnf) | ((with_reducible refine bk_nf ?_); conv => whnf)))))))
      refine ret_pf rfl rfl rfl
  · exact absurd (by decide) (f4 3 (by decide) (by decide))

theorem KmpNone_fn (s : List UInt8) : PF Try.prog 10 [.str s] (.b true) := by
  refine pf_intro rf10_eq kmixed rfl ?_
  ((conv => whnf) <;> (repeat (first | (refine And.intro (by first | omega | exact rfl) ?_; conv => whnf) | ((with_reducible refine bk_true ?_); conv => whnf) | ((with_reducible refine bk_false ?_); conv => whnf) | ((with_reducible refine bk_nt ?_); conv => whnf) | ((with_reducible refine bk_nf ?_); conv => whnf))))
  ((repeat' ((first | refine bk_true ?_ | refine bk_false ?_) <;> ((conv => whnf) <;> (repeat (first | (refine And.intro (by first | omega | exact rfl) ?_; conv => whnf) | ((with_reducible refine bk_true ?_); conv => whnf) | ((with_reducible refine bk_false ?_); conv => whnf) | ((with_reducible refine bk_nt ?_); conv => whnf) | ((with_reducible refine bk_nf ?_); conv => whnf)))))))
  refine vcall_pf alive_fn rfl rfl ?_
  ((conv => whnf) <;> (repeat (first | (refine And.intro (by first | omega | exact rfl) ?_; conv => whnf) | ((with_reducible refine bk_true ?_); conv => whnf) | ((with_reducible refine bk_false ?_); conv => whnf) | ((with_reducible refine bk_nt ?_); conv => whnf) | ((with_reducible refine bk_nf ?_); conv => whnf))))
  ((repeat' ((first | refine bk_true ?_ | refine bk_false ?_) <;> ((conv => whnf) <;> (repeat (first | (refine And.intro (by first | omega | exact rfl) ?_; conv => whnf) | ((with_reducible refine bk_true ?_); conv => whnf) | ((with_reducible refine bk_false ?_); conv => whnf) | ((with_reducible refine bk_nt ?_); conv => whnf) | ((with_reducible refine bk_nf ?_); conv => whnf)))))))
  refine vcall_new (feed_nil s) rfl rfl ?_
  rintro r H' ⟨rfl, rfl⟩
  ((conv => whnf) <;> (repeat (first | (refine And.intro (by first | omega | exact rfl) ?_; conv => whnf) | ((with_reducible refine bk_true ?_); conv => whnf) | ((with_reducible refine bk_false ?_); conv => whnf) | ((with_reducible refine bk_nt ?_); conv => whnf) | ((with_reducible refine bk_nf ?_); conv => whnf))))
  ((repeat' ((first | refine bk_true ?_ | refine bk_false ?_) <;> ((conv => whnf) <;> (repeat (first | (refine And.intro (by first | omega | exact rfl) ?_; conv => whnf) | ((with_reducible refine bk_true ?_); conv => whnf) | ((with_reducible refine bk_false ?_); conv => whnf) | ((with_reducible refine bk_nt ?_); conv => whnf) | ((with_reducible refine bk_nf ?_); conv => whnf)))))))
  refine vcall_pf held_nil rfl rfl ?_
  ((conv => whnf) <;> (repeat (first | (refine And.intro (by first | omega | exact rfl) ?_; conv => whnf) | ((with_reducible refine bk_true ?_); conv => whnf) | ((with_reducible refine bk_false ?_); conv => whnf) | ((with_reducible refine bk_nt ?_); conv => whnf) | ((with_reducible refine bk_nf ?_); conv => whnf))))
  ((repeat' ((first | refine bk_true ?_ | refine bk_false ?_) <;> ((conv => whnf) <;> (repeat (first | (refine And.intro (by first | omega | exact rfl) ?_; conv => whnf) | ((with_reducible refine bk_true ?_); conv => whnf) | ((with_reducible refine bk_false ?_); conv => whnf) | ((with_reducible refine bk_nt ?_); conv => whnf) | ((with_reducible refine bk_nf ?_); conv => whnf)))))))
  refine vcall_pf fed_nil rfl rfl ?_
  ((conv => whnf) <;> (repeat (first | (refine And.intro (by first | omega | exact rfl) ?_; conv => whnf) | ((with_reducible refine bk_true ?_); conv => whnf) | ((with_reducible refine bk_false ?_); conv => whnf) | ((with_reducible refine bk_nt ?_); conv => whnf) | ((with_reducible refine bk_nf ?_); conv => whnf))))
  ((repeat' ((first | refine bk_true ?_ | refine bk_false ?_) <;> ((conv => whnf) <;> (repeat (first | (refine And.intro (by first | omega | exact rfl) ?_; conv => whnf) | ((with_reducible refine bk_true ?_); conv => whnf) | ((with_reducible refine bk_false ?_); conv => whnf) | ((with_reducible refine bk_nt ?_); conv => whnf) | ((with_reducible refine bk_nf ?_); conv => whnf)))))))
  refine vcall_pf steps_nil rfl rfl ?_
  ((conv => whnf) <;> (repeat (first | (refine And.intro (by first | omega | exact rfl) ?_; conv => whnf) | ((with_reducible refine bk_true ?_); conv => whnf) | ((with_reducible refine bk_false ?_); conv => whnf) | ((with_reducible refine bk_nt ?_); conv => whnf) | ((with_reducible refine bk_nf ?_); conv => whnf))))
  ((repeat' ((first | refine bk_true ?_ | refine bk_false ?_) <;> ((conv => whnf) <;> (repeat (first | (refine And.intro (by first | omega | exact rfl) ?_; conv => whnf) | ((with_reducible refine bk_true ?_); conv => whnf) | ((with_reducible refine bk_false ?_); conv => whnf) | ((with_reducible refine bk_nt ?_); conv => whnf) | ((with_reducible refine bk_nf ?_); conv => whnf)))))))
  refine ret_pf rfl rfl rfl

end Hk
