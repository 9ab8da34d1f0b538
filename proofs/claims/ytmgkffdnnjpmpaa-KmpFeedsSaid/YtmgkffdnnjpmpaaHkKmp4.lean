/- The walks of the reference's functions. -/
import Derived.Test.YtmgkffdnnjpmpaaHkKmp3
namespace Hk
open Go Go.Proofs
set_option linter.unusedVariables false
set_option maxRecDepth 100000

def StAt (s d : List UInt8) (i : Nat) : Prop := i + d.length ≤ s.length ∧ (s.drop i).take d.length = d
def MbAt (s d : List UInt8) (i : Nat) : Prop := s.length - i < d.length ∧ s.drop i = d.take (s.length - i)
instance (s d : List UInt8) (i : Nat) : Decidable (StAt s d i) := inferInstanceAs (Decidable (_ ∧ _))
instance (s d : List UInt8) (i : Nat) : Decidable (MbAt s d i) := inferInstanceAs (Decidable (_ ∧ _))

theorem refRight_fn (d : List UInt8) (hb : d.length < 2 ^ 62) : PF Try.prog 28 [.str d] (.b (decide (1 ≤ d.length ∧ d.length ≤ 64))) := by
  refine pf_intro rf28_eq kmixed rfl ?_
  ((conv => whnf) <;> (repeat (first | (refine And.intro (by first | omega | exact rfl) ?_; conv => whnf) | ((with_reducible refine bk_true ?_); conv => whnf) | ((with_reducible refine bk_false ?_); conv => whnf) | ((with_reducible refine bk_nt ?_); conv => whnf) | ((with_reducible refine bk_nf ?_); conv => whnf))))
  (refine bk_split (fun hb => ?_) (fun hb => ?_))
  · have h1 := geq_t hb
    ((conv => whnf) <;> (repeat (first | (refine And.intro (by first | omega | exact rfl) ?_; conv => whnf) | ((with_reducible refine bk_true ?_); conv => whnf) | ((with_reducible refine bk_false ?_); conv => whnf) | ((with_reducible refine bk_nt ?_); conv => whnf) | ((with_reducible refine bk_nf ?_); conv => whnf))))
    refine ret_pf rfl rfl ?_
    refine congrArg PV.b ?_
    show decide ((d.length : Int) ≤ 64) = _
    exact decide_eq_decide.2 (by omega)
  · have h1 := geq_f hb
    ((conv => whnf) <;> (repeat (first | (refine And.intro (by first | omega | exact rfl) ?_; conv => whnf) | ((with_reducible refine bk_true ?_); conv => whnf) | ((with_reducible refine bk_false ?_); conv => whnf) | ((with_reducible refine bk_nt ?_); conv => whnf) | ((with_reducible refine bk_nf ?_); conv => whnf))))
    refine ret_pf rfl rfl ?_
    refine congrArg PV.b ?_
    rw [decide_eq_false (by omega)]

theorem stands_fn (s d : List UInt8) (i : Nat) (hi : i ≤ s.length) (hs : s.length < 2 ^ 61) (hd : d.length < 2 ^ 61) : PF Try.prog 68 [.str s, .str d, .int .i64 i] (.b (decide (StAt s d i))) := by
  refine pf_intro rf68_eq kmixed rfl ?_
  ((conv => whnf) <;> (repeat (first | (refine And.intro (by first | omega | exact rfl) ?_; conv => whnf) | ((with_reducible refine bk_true ?_); conv => whnf) | ((with_reducible refine bk_false ?_); conv => whnf) | ((with_reducible refine bk_nt ?_); conv => whnf) | ((with_reducible refine bk_nf ?_); conv => whnf))))
  rw [sub64 (by omega) (by omega)]
  (refine bk_split (fun hb => ?_) (fun hb => ?_))
  · have h1 := leq_t hb
    ((conv => whnf) <;> (repeat (first | (refine And.intro (by first | omega | exact rfl) ?_; conv => whnf) | ((with_reducible refine bk_true ?_); conv => whnf) | ((with_reducible refine bk_false ?_); conv => whnf) | ((with_reducible refine bk_nt ?_); conv => whnf) | ((with_reducible refine bk_nf ?_); conv => whnf))))
    rw [add64 (by omega) (by omega)]
    refine And.intro ⟨by omega, by omega, by omega⟩ ?_
    ((conv => whnf) <;> (repeat (first | (refine And.intro (by first | omega | exact rfl) ?_; conv => whnf) | ((with_reducible refine bk_true ?_); conv => whnf) | ((with_reducible refine bk_false ?_); conv => whnf) | ((with_reducible refine bk_nt ?_); conv => whnf) | ((with_reducible refine bk_nf ?_); conv => whnf))))
    refine ret_pf rfl rfl ?_
    refine congrArg PV.b ?_
    rw [dropN_eq, show ((i : Int) + d.length).toNat - (i : Int).toNat = d.length by omega, Int.toNat_natCast]
    show ((s.drop i).take d.length == d) = _
    rw [Bool.eq_iff_iff, beq_iff_eq, decide_eq_true_iff]
    exact ⟨fun h => ⟨by omega, h⟩, fun h => h.2⟩
  · have h1 := leq_f hb
    ((conv => whnf) <;> (repeat (first | (refine And.intro (by first | omega | exact rfl) ?_; conv => whnf) | ((with_reducible refine bk_true ?_); conv => whnf) | ((with_reducible refine bk_false ?_); conv => whnf) | ((with_reducible refine bk_nt ?_); conv => whnf) | ((with_reducible refine bk_nf ?_); conv => whnf))))
    refine ret_pf rfl rfl ?_
    refine congrArg PV.b ?_
    rw [decide_eq_false fun h => by have := h.1; omega]

theorem mayBegin_fn (s d : List UInt8) (i : Nat) (hi : i ≤ s.length) (hs : s.length < 2 ^ 61) (hd : d.length < 2 ^ 61) : PF Try.prog 69 [.str s, .str d, .int .i64 i] (.b (decide (MbAt s d i))) := by
  refine pf_intro rf69_eq kmixed rfl ?_
  ((conv => whnf) <;> (repeat (first | (refine And.intro (by first | omega | exact rfl) ?_; conv => whnf) | ((with_reducible refine bk_true ?_); conv => whnf) | ((with_reducible refine bk_false ?_); conv => whnf) | ((with_reducible refine bk_nt ?_); conv => whnf) | ((with_reducible refine bk_nf ?_); conv => whnf))))
  rw [sub64 (by omega) (by omega)]
  (refine bk_split (fun hb => ?_) (fun hb => ?_))
  · have h1 := lss_t hb
    ((conv => whnf) <;> (repeat (first | (refine And.intro (by first | omega | exact rfl) ?_; conv => whnf) | ((with_reducible refine bk_true ?_); conv => whnf) | ((with_reducible refine bk_false ?_); conv => whnf) | ((with_reducible refine bk_nt ?_); conv => whnf) | ((with_reducible refine bk_nf ?_); conv => whnf))))
    refine ret_pf rfl rfl ?_
    refine congrArg PV.b ?_
    rw [dropN_eq, dropN_eq, show (s.length : Int).toNat - (i : Int).toNat = s.length - i by omega, show ((s.length : Int) - i).toNat - Int.toNat 0 = s.length - i by omega, Int.toNat_natCast,
      show Int.toNat 0 = 0 from rfl, List.drop_zero, List.take_of_length_le (by simp)]
    show (s.drop i == d.take (s.length - i)) = _
    rw [Bool.eq_iff_iff, beq_iff_eq, decide_eq_true_iff]
    exact ⟨fun h => ⟨by omega, h⟩, fun h => h.2⟩
  · have h1 := lss_f hb
    ((conv => whnf) <;> (repeat (first | (refine And.intro (by first | omega | exact rfl) ?_; conv => whnf) | ((with_reducible refine bk_true ?_); conv => whnf) | ((with_reducible refine bk_false ?_); conv => whnf) | ((with_reducible refine bk_nt ?_); conv => whnf) | ((with_reducible refine bk_nf ?_); conv => whnf))))
    refine ret_pf rfl rfl ?_
    refine congrArg PV.b ?_
    rw [decide_eq_false fun h => by have := h.1; omega]

/-- What the reference's search tells. -/
def FindR (s d : List UInt8) (at' : Nat) (is : Bool) : Prop := at' ≤ s.length ∧ (∀ i, i < at' → ¬ StAt s d i ∧ ¬ MbAt s d i) ∧ (is = true ∧ StAt s d at' ∨ is = false ∧ ¬ StAt s d at' ∧ MbAt s d at')

theorem refFind_fn (s d : List UInt8) (h1 : 1 ≤ d.length) (hs : s.length < 2 ^ 61) (hd : d.length < 2 ^ 61) :
    Fn Try.prog 30 ([.str s, .str d].map .p) [] [] (fun r H' => ∃ a is, FindR s d a is ∧ r = .tup [.p (i64 a), .p (.b is)] ∧ H' = []) := by
  refine fn_intro rf30_eq kmixed (F := Fn Try.prog) (fun _ _ _ _ _ h => h) rfl ?_
  ((conv => whnf) <;> (repeat (first | (refine And.intro (by first | omega | exact rfl) ?_; conv => whnf) | ((with_reducible refine bk_true ?_); conv => whnf) | ((with_reducible refine bk_false ?_); conv => whnf) | ((with_reducible refine bk_nt ?_); conv => whnf) | ((with_reducible refine bk_nf ?_); conv => whnf))))
  refine ⟨[], Nat, fun i => ⟨[(0, .p (.str s)), (1, .p (.str d)), (6, .p (i64 i))], []⟩, fun a => a ≤ s.length ∧ ∀ i, i < a → ¬ StAt s d i ∧ ¬ MbAt s d i, fun i => s.length - i,
    ⟨0, ⟨Nat.zero_le _, fun i hi => absurd hi (by omega)⟩, ?_⟩, fun a ha => ?_⟩
  · (refine ⟨⟨rfl, rfl⟩, ?_, ?_⟩ <;> (repeat' (first | exact TLe.nil | exact HLe.nil _ | refine TLe.cons ?_ ?_ | refine HLe.cons ?_ ?_ | exact KLe.ptr rfl | exact KLe.sl rfl (.inl rfl) | exact KLe.csl rfl | refine KLe.pe ?_ | refine BLe.pe ?_ | refine BLe.mx ?_ | exact KLeL.nil | refine KLe.fn ?_ ?_ | refine KLeL.cons ?_ ?_ | exact KLe.und _ | exact BLe.dead _)) <;> (try with_reducible rfl))
    all_goals rfl
  · obtain ⟨ha, hno⟩ := ha
    ((conv => whnf) <;> (repeat (first | (refine And.intro (by first | omega | exact rfl) ?_; conv => whnf) | ((with_reducible refine bk_true ?_); conv => whnf) | ((with_reducible refine bk_false ?_); conv => whnf) | ((with_reducible refine bk_nt ?_); conv => whnf) | ((with_reducible refine bk_nf ?_); conv => whnf))))
    refine bk_split (fun hb => ?_) (fun hb => absurd (leq_f hb) (by omega))
    ((conv => whnf) <;> (repeat (first | (refine And.intro (by first | omega | exact rfl) ?_; conv => whnf) | ((with_reducible refine bk_true ?_); conv => whnf) | ((with_reducible refine bk_false ?_); conv => whnf) | ((with_reducible refine bk_nt ?_); conv => whnf) | ((with_reducible refine bk_nf ?_); conv => whnf))))
    refine vcall_pf (stands_fn s d a ha hs hd) rfl rfl ?_
    by_cases hst : StAt s d a
    · rw [decide_eq_true hst]
      ((conv => whnf) <;> (repeat (first | (refine And.intro (by first | omega | exact rfl) ?_; conv => whnf) | ((with_reducible refine bk_true ?_); conv => whnf) | ((with_reducible refine bk_false ?_); conv => whnf) | ((with_reducible refine bk_nt ?_); conv => whnf) | ((with_reducible refine bk_nf ?_); conv => whnf))))
      refine ⟨.tup [.p (i64 a), .p (.b true)], [], ⟨a, true, ⟨ha, hno, .inl ⟨rfl, hst⟩⟩, rfl, rfl⟩, ⟨rfl, rfl⟩, ?_, ?_⟩
      all_goals ((repeat' (first | exact HLe.nil _ | refine HLe.cons ?_ ?_ | exact KLe.ptr rfl | exact KLe.sl rfl (.inl rfl) | exact KLe.csl rfl | refine KLe.pe ?_ | refine KLe.tup ?_ | refine KLe.agg ?_ | refine BLe.pe ?_ | refine BLe.mx ?_ | exact KLeL.nil | refine KLe.fn ?_ ?_ | refine KLeL.cons ?_ ?_ | exact KLe.und _ | exact BLe.dead _)) <;> (try with_reducible rfl))
    · rw [decide_eq_false hst]
      ((conv => whnf) <;> (repeat (first | (refine And.intro (by first | omega | exact rfl) ?_; conv => whnf) | ((with_reducible refine bk_true ?_); conv => whnf) | ((with_reducible refine bk_false ?_); conv => whnf) | ((with_reducible refine bk_nt ?_); conv => whnf) | ((with_reducible refine bk_nf ?_); conv => whnf))))
      refine vcall_pf (mayBegin_fn s d a ha hs hd) rfl rfl ?_
      by_cases hmb : MbAt s d a
      · rw [decide_eq_true hmb]
        ((conv => whnf) <;> (repeat (first | (refine And.intro (by first | omega | exact rfl) ?_; conv => whnf) | ((with_reducible refine bk_true ?_); conv => whnf) | ((with_reducible refine bk_false ?_); conv => whnf) | ((with_reducible refine bk_nt ?_); conv => whnf) | ((with_reducible refine bk_nf ?_); conv => whnf))))
        refine ⟨.tup [.p (i64 a), .p (.b false)], [], ⟨a, false, ⟨ha, hno, .inr ⟨rfl, hst, hmb⟩⟩, rfl, rfl⟩, ⟨rfl, rfl⟩, ?_, ?_⟩
        all_goals ((repeat' (first | exact HLe.nil _ | refine HLe.cons ?_ ?_ | exact KLe.ptr rfl | exact KLe.sl rfl (.inl rfl) | exact KLe.csl rfl | refine KLe.pe ?_ | refine KLe.tup ?_ | refine KLe.agg ?_ | refine BLe.pe ?_ | refine BLe.mx ?_ | exact KLeL.nil | refine KLe.fn ?_ ?_ | refine KLeL.cons ?_ ?_ | exact KLe.und _ | exact BLe.dead _)) <;> (try with_reducible rfl))
      · rw [decide_eq_false hmb]
        have hlt : a < s.length := by
          rcases Nat.lt_or_ge a s.length with h | h
          · exact h
          · have : a = s.length := by omega
            subst this
            exact absurd ⟨by omega, by simp⟩ hmb
        ((conv => whnf) <;> (repeat (first | (refine And.intro (by first | omega | exact rfl) ?_; conv => whnf) | ((with_reducible refine bk_true ?_); conv => whnf) | ((with_reducible refine bk_false ?_); conv => whnf) | ((with_reducible refine bk_nt ?_); conv => whnf) | ((with_reducible refine bk_nf ?_); conv => whnf))))
        refine ⟨a + 1, ⟨hlt, fun i hi => ?_⟩, (show s.length - (a + 1) < s.length - a by omega), ?_⟩
        · rcases Nat.lt_or_ge i a with h | h
          · exact hno i h
          · have : i = a := by omega
            subst this
            exact ⟨hst, hmb⟩
        · (refine ⟨⟨rfl, rfl⟩, ?_, ?_⟩ <;> (repeat' (first | exact TLe.nil | exact HLe.nil _ | refine TLe.cons ?_ ?_ | refine HLe.cons ?_ ?_ | exact KLe.ptr rfl | exact KLe.sl rfl (.inl rfl) | exact KLe.csl rfl | refine KLe.pe ?_ | refine BLe.pe ?_ | refine BLe.mx ?_ | exact KLeL.nil | refine KLe.fn ?_ ?_ | refine KLeL.cons ?_ ?_ | exact KLe.und _ | exact BLe.dead _)) <;> (try with_reducible rfl))
          all_goals first | ((refine congrArg (PV.int IntKind.i64) ?_) <;> (first | rfl | omega | (rw [add64 (by omega) (by omega)]; omega) | (rw [sub64 (by omega) (by omega)]; omega))) | skip

/-! ### What is fed is what is found -/

theorem isB_stands {d T : List UInt8} {e : Nat} (he : e ≤ T.length) : IsB d (T.take e) d.length ↔ d.length ≤ e ∧ StAt T d (e - d.length) := by
  have hl : (T.take e).length = e := by simp; omega
  unfold IsB StAt
  rw [hl, List.take_length, List.drop_take]
  constructor
  · rintro ⟨_, h2, h3⟩
    refine ⟨h2, by omega, ?_⟩
    rw [show e - (e - d.length) = d.length by omega] at h3
    exact h3.symm
  · rintro ⟨h1, h2, h3⟩
    refine ⟨Nat.le_refl _, h1, ?_⟩
    rw [show e - (e - d.length) = d.length by omega]
    exact h3.symm

theorem isB_may {d T : List UInt8} {i : Nat} (hi : i ≤ T.length) : MbAt T d i ↔ IsB d T (T.length - i) ∧ T.length - i < d.length := by
  unfold MbAt IsB
  rw [show T.length - (T.length - i) = i by omega]
  constructor
  · rintro ⟨h1, h2⟩; exact ⟨⟨by omega, by omega, h2.symm⟩, h1⟩
  · rintro ⟨⟨h1, h2, h3⟩, h4⟩; exact ⟨h4, h3.symm⟩

theorem found {d T : List UInt8} {e a : Nat} {is : Bool} (h1 : 1 ≤ d.length) (he : e ≤ T.length) (hy : IsB d (T.take e) d.length) (hno : ∀ k, k < e → ¬ IsB d (T.take k) d.length)
    (hf : FindR T d a is) : is = true ∧ e = a + d.length := by
  obtain ⟨g1, g2, g3⟩ := hf
  obtain ⟨y1, y2⟩ := (isB_stands he).1 hy
  have ha : a ≤ e - d.length := by
    rcases Nat.lt_or_ge (e - d.length) a with h | h
    · exact absurd y2 (g2 _ h).1
    · exact h
  rcases g3 with ⟨rfl, g⟩ | ⟨rfl, g, g'⟩
  · refine ⟨rfl, ?_⟩
    rcases Nat.lt_or_ge (a + d.length) e with h | h
    · refine absurd ((isB_stands (by omega)).2 ⟨by omega, ?_⟩) (hno _ h)
      rw [Nat.add_sub_cancel]; exact g
    · omega
  · have := g'.1
    omega

theorem unfound {d T : List UInt8} {a h : Nat} {is : Bool} (hh : Hold d T h) (hl : h < d.length) (hno : ∀ k, k ≤ T.length → ¬ IsB d (T.take k) d.length)
    (hf : FindR T d a is) : is = false ∧ a = T.length - h ∧ h ≤ T.length := by
  obtain ⟨g1, g2, g3⟩ := hf
  have hlt := hh.1.2.1
  rcases g3 with ⟨rfl, g⟩ | ⟨rfl, g, g'⟩
  · refine absurd ((isB_stands (by have := g.1; omega)).2 ⟨Nat.le_add_left _ _, ?_⟩) (hno (a + d.length) g.1)
    rw [Nat.add_sub_cancel]; exact g
  · refine ⟨rfl, ?_, hlt⟩
    obtain ⟨m1, m2⟩ := (isB_may g1).1 g'
    have := hh.2 _ m1
    rcases Nat.lt_or_ge (T.length - h) a with h' | h'
    · refine absurd ((isB_may (by omega)).2 ?_) (g2 _ h').2
      rw [show T.length - (T.length - h) = h by omega]
      exact ⟨hh.1, hl⟩
    · omega

end Hk
