/- The walks of the seeker's functions: right, back. -/
import Derived.Test.YtmgkffdnnjpmpaaHkKmpRf
import Derived.Test.YtmgkffdnnjpmpaaHkKmpMath
namespace Hk
open Go Go.Proofs
set_option linter.unusedVariables false
set_option maxRecDepth 100000

theorem kmixed : Try.prog.follows .mixedOrders = true := by kernel_rfl

theorem right_fn (d : List UInt8) : PF Try.prog 65 [.str d] (.b (decide (0 < d.length ∧ d.length ≤ 64))) := by
  refine pf_intro rf65_eq kmixed rfl ?_
  ((conv => whnf) <;> (repeat (first | (refine And.intro (by first | omega | exact rfl) ?_; conv => whnf) | ((with_reducible refine bk_true ?_); conv => whnf) | ((with_reducible refine bk_false ?_); conv => whnf) | ((with_reducible refine bk_nt ?_); conv => whnf) | ((with_reducible refine bk_nf ?_); conv => whnf))))
  (refine bk_split (fun hb => ?_) (fun hb => ?_))
  · have h1 : (0 : Int) < d.length := gtr_t hb
    ((conv => whnf) <;> (repeat (first | (refine And.intro (by first | omega | exact rfl) ?_; conv => whnf) | ((with_reducible refine bk_true ?_); conv => whnf) | ((with_reducible refine bk_false ?_); conv => whnf) | ((with_reducible refine bk_nt ?_); conv => whnf) | ((with_reducible refine bk_nf ?_); conv => whnf))))
    refine ret_pf rfl rfl ?_
    refine congrArg PV.b ?_
    simp only [intCm]
    by_cases h2 : d.length ≤ 64
    · simp [h2]; omega
    · simp [h2]; omega
  · have h1 : (d.length : Int) ≤ 0 := gtr_f hb
    ((conv => whnf) <;> (repeat (first | (refine And.intro (by first | omega | exact rfl) ?_; conv => whnf) | ((with_reducible refine bk_true ?_); conv => whnf) | ((with_reducible refine bk_false ?_); conv => whnf) | ((with_reducible refine bk_nt ?_); conv => whnf) | ((with_reducible refine bk_nf ?_); conv => whnf))))
    refine ret_pf rfl rfl ?_
    refine congrArg PV.b ?_
    simp; omega

theorem take_succ' {l : List UInt8} {i : Nat} {c : UInt8} (h : l[i]? = some c) : l.take (i + 1) = l.take i ++ [c] := by
  rw [List.take_add_one, h]; rfl

def borders (d : List UInt8) : List (List PV) := (List.range (d.length + 1)).map fun n => [i64 (bord d n)]

theorem bord_le (d : List UInt8) (n : Nat) (h : 1 ≤ n) : bord d n < n := (bord_spec d h).2.1

theorem upto_take {α : Type} {n k : Nat} {f : Nat → α} {z : α} (h : k ≤ n) : (upto n k f z).take k = (List.range k).map f := by
  apply List.ext_getElem?
  intro i
  by_cases hi : i < k
  · rw [List.getElem?_take_of_lt hi, upto_get (by omega), if_pos hi]; simp [hi]
  · rw [List.getElem?_eq_none (by simp [upto_len]; omega), List.getElem?_eq_none (by simp; omega)]

theorem bord_one (d : List UInt8) : bord d 1 = 0 := by have := bord_le d 1 (Nat.le_refl _); omega

theorem back_fn (d : List UInt8) (h1 : 1 ≤ d.length) (h2 : d.length ≤ 64) : PF Try.prog 66 [.str d] (.isl 1 (borders d) none) := by
  refine pf_intro rf66_eq kmixed rfl ?_
  ((conv => whnf) <;> (repeat (first | (refine And.intro (by first | omega | exact rfl) ?_; conv => whnf) | ((with_reducible refine bk_true ?_); conv => whnf) | ((with_reducible refine bk_false ?_); conv => whnf) | ((with_reducible refine bk_nt ?_); conv => whnf) | ((with_reducible refine bk_nf ?_); conv => whnf))))
  refine ⟨[], Nat, fun i => ⟨[(0, .p (.str d)), (3, .ptr 0 65 0 0), (4, .p (i64 (bord d i))), (5, .p (i64 i))], [.pr 65 [upto 65 (i + 1) (fun n => i64 (bord d n)) (.int .i64 0)]]⟩,
    fun i => 1 ≤ i ∧ i ≤ d.length, fun i => d.length - i, ⟨1, ⟨Nat.le_refl _, h1⟩, ?_⟩, ?_⟩
  · (refine ⟨⟨rfl, rfl⟩, ?_, ?_⟩ <;> (repeat' (first | exact TLe.nil | exact HLe.nil _ | refine TLe.cons ?_ ?_ | refine HLe.cons ?_ ?_ | exact KLe.ptr rfl | exact KLe.sl rfl (.inl rfl) | exact KLe.csl rfl | refine KLe.pe ?_ | refine BLe.pe ?_ | refine BLe.mx ?_ | exact KLeL.nil | refine KLe.fn ?_ ?_ | refine KLeL.cons ?_ ?_ | exact KLe.und _ | exact BLe.dead _)) <;> (try with_reducible rfl))
    all_goals first | exact congrArg (PV.int .i64) (by rw [bord_one]; rfl) | ((refine congrArg (PV.int IntKind.i64) ?_) <;> (first | rfl | omega | (rw [add64 (by omega) (by omega)]; omega) | (rw [sub64 (by omega) (by omega)]; omega))) | skip
    all_goals refine congrArg (fun r => [r]) ?_
    all_goals rw [← upto_zero 65 (fun n => i64 (bord d n)) (.int .i64 0)]
    all_goals
      apply List.map_congr_left
      intro j hj
      match j with
      | 0 => simp [bord]
      | 1 => simp [bord_one]
      | j + 2 => rw [if_neg (by omega), if_neg (by omega)]
  · rintro i ⟨hi1, hi2⟩
    ((conv => whnf) <;> (repeat (first | (refine And.intro (by first | omega | exact rfl) ?_; conv => whnf) | ((with_reducible refine bk_true ?_); conv => whnf) | ((with_reducible refine bk_false ?_); conv => whnf) | ((with_reducible refine bk_nt ?_); conv => whnf) | ((with_reducible refine bk_nf ?_); conv => whnf))))
    (refine bk_split (fun hb => ?_) (fun hb => ?_))
    · have hb : (i : Int) < d.length := lss_t hb
      have hlt : i < d.length := by omega
      obtain ⟨c, hc⟩ : ∃ c, d[i]? = some c := ⟨_, List.getElem?_eq_getElem hlt⟩
      have hT : (d.take (i + 1)).drop 1 = (d.take i).drop 1 ++ [c] := by
        rw [take_succ' hc, List.drop_append_of_le_length (by simp; omega)]
      have hcand : Cand d ((d.take i).drop 1) c (bord d i) := by
        have := (hold_bk hi2 hi1).2 (bord_spec d hi1)
        exact this.cand (by have := bord_le d i hi1; omega) c
      ((conv => whnf) <;> (repeat (first | (refine And.intro (by first | omega | exact rfl) ?_; conv => whnf) | ((with_reducible refine bk_true ?_); conv => whnf) | ((with_reducible refine bk_false ?_); conv => whnf) | ((with_reducible refine bk_nt ?_); conv => whnf) | ((with_reducible refine bk_nf ?_); conv => whnf))))
      refine ⟨[], Nat, fun k => ⟨[(0, .p (.str d)), (3, .ptr 0 65 0 0), (4, .p (i64 k)), (5, .p (i64 i))], [.pr 65 [upto 65 (i + 1) (fun n => i64 (bord d n)) (.int .i64 0)]]⟩,
        fun k => Cand d ((d.take i).drop 1) c k, fun k => k, ⟨bord d i, hcand, ?_⟩, fun k hk => ?_⟩
      · (refine ⟨⟨rfl, rfl⟩, ?_, ?_⟩ <;> (repeat' (first | exact TLe.nil | exact HLe.nil _ | refine TLe.cons ?_ ?_ | refine HLe.cons ?_ ?_ | exact KLe.ptr rfl | exact KLe.sl rfl (.inl rfl) | exact KLe.csl rfl | refine KLe.pe ?_ | refine BLe.pe ?_ | refine BLe.mx ?_ | exact KLeL.nil | refine KLe.fn ?_ ?_ | refine KLeL.cons ?_ ?_ | exact KLe.und _ | exact BLe.dead _)) <;> (try with_reducible rfl))
      · have hk : Cand d ((d.take i).drop 1) c k := hk
        have hkl := hk.2.1
        have hki : k < i := by have := hk.1.2.1; simp at this; omega
        obtain ⟨e, he⟩ : ∃ e, d[k]? = some e := ⟨_, List.getElem?_eq_getElem hkl⟩
        have fin : ∀ b, Hold d ((d.take i).drop 1 ++ [c]) b → b = bord d (i + 1) := fun b hb => by
          rw [← hT] at hb
          exact ((hold_bk (by omega) (by omega)).1 hb).uniq (bord_spec d (by omega))
        have eqc : ∀ {x z : UInt8}, (x.toNat : Int) = z.toNat → x = z := fun {x z} h => UInt8.toNat_inj.1 (by omega)
        ((conv => whnf) <;> (repeat (first | (refine And.intro (by first | omega | exact rfl) ?_; conv => whnf) | ((with_reducible refine bk_true ?_); conv => whnf) | ((with_reducible refine bk_false ?_); conv => whnf) | ((with_reducible refine bk_nt ?_); conv => whnf) | ((with_reducible refine bk_nf ?_); conv => whnf))))
        (refine bk_split (fun hb => ?_) (fun hb => ?_))
        · have hb : (0 : Int) < k := gtr_t hb
          ((conv => whnf) <;> (repeat (first | (refine And.intro (by first | omega | exact rfl) ?_; conv => whnf) | ((with_reducible refine bk_true ?_); conv => whnf) | ((with_reducible refine bk_false ?_); conv => whnf) | ((with_reducible refine bk_nt ?_); conv => whnf) | ((with_reducible refine bk_nf ?_); conv => whnf))))
          refine ⟨e, he, ?_⟩
          ((conv => whnf) <;> (repeat (first | (refine And.intro (by first | omega | exact rfl) ?_; conv => whnf) | ((with_reducible refine bk_true ?_); conv => whnf) | ((with_reducible refine bk_false ?_); conv => whnf) | ((with_reducible refine bk_nt ?_); conv => whnf) | ((with_reducible refine bk_nf ?_); conv => whnf))))
          refine ⟨c, hc, ?_⟩
          ((conv => whnf) <;> (repeat (first | (refine And.intro (by first | omega | exact rfl) ?_; conv => whnf) | ((with_reducible refine bk_true ?_); conv => whnf) | ((with_reducible refine bk_false ?_); conv => whnf) | ((with_reducible refine bk_nt ?_); conv => whnf) | ((with_reducible refine bk_nf ?_); conv => whnf))))
          (refine bk_split (fun hb => ?_) (fun hb => ?_))
          · have hne := neq_t hb
            have hck : d[k]? ≠ some c := fun h => hne (by rw [he] at h; cases h; rfl)
            ((conv => whnf) <;> (repeat (first | (refine And.intro (by first | omega | exact rfl) ?_; conv => whnf) | ((with_reducible refine bk_true ?_); conv => whnf) | ((with_reducible refine bk_false ?_); conv => whnf) | ((with_reducible refine bk_nt ?_); conv => whnf) | ((with_reducible refine bk_nf ?_); conv => whnf))))
            refine ⟨_, rfl, i64 (bord d k), ?_, ?_⟩
            · rw [Nat.zero_add, Nat.mul_one, Int.toNat_natCast, upto_get (by omega), if_pos (by omega)]
            ((conv => whnf) <;> (repeat (first | (refine And.intro (by first | omega | exact rfl) ?_; conv => whnf) | ((with_reducible refine bk_true ?_); conv => whnf) | ((with_reducible refine bk_false ?_); conv => whnf) | ((with_reducible refine bk_nt ?_); conv => whnf) | ((with_reducible refine bk_nf ?_); conv => whnf))))
            refine ⟨bord d k, hk.back hck (bord_spec d (by omega)), (bord_le d k (by omega)), ?_⟩
            (refine ⟨⟨rfl, rfl⟩, ?_, ?_⟩ <;> (repeat' (first | exact TLe.nil | exact HLe.nil _ | refine TLe.cons ?_ ?_ | refine HLe.cons ?_ ?_ | exact KLe.ptr rfl | exact KLe.sl rfl (.inl rfl) | exact KLe.csl rfl | refine KLe.pe ?_ | refine BLe.pe ?_ | refine BLe.mx ?_ | exact KLeL.nil | refine KLe.fn ?_ ?_ | refine KLeL.cons ?_ ?_ | exact KLe.und _ | exact BLe.dead _)) <;> (try with_reducible rfl))
          · have hee := eqc (neq_f hb)
            subst hee
            have hck := he
            ((conv => whnf) <;> (repeat (first | (refine And.intro (by first | omega | exact rfl) ?_; conv => whnf) | ((with_reducible refine bk_true ?_); conv => whnf) | ((with_reducible refine bk_false ?_); conv => whnf) | ((with_reducible refine bk_nt ?_); conv => whnf) | ((with_reducible refine bk_nf ?_); conv => whnf))))
            refine ⟨e, he, ?_⟩
            ((conv => whnf) <;> (repeat (first | (refine And.intro (by first | omega | exact rfl) ?_; conv => whnf) | ((with_reducible refine bk_true ?_); conv => whnf) | ((with_reducible refine bk_false ?_); conv => whnf) | ((with_reducible refine bk_nt ?_); conv => whnf) | ((with_reducible refine bk_nf ?_); conv => whnf))))
            refine ⟨e, hc, ?_⟩
            ((conv => whnf) <;> (repeat (first | (refine And.intro (by first | omega | exact rfl) ?_; conv => whnf) | ((with_reducible refine bk_true ?_); conv => whnf) | ((with_reducible refine bk_false ?_); conv => whnf) | ((with_reducible refine bk_nt ?_); conv => whnf) | ((with_reducible refine bk_nf ?_); conv => whnf))))
            refine bk_split (fun hb => ?_) (fun hb => absurd rfl (eql_f hb))
            ((conv => whnf) <;> (repeat (first | (refine And.intro (by first | omega | exact rfl) ?_; conv => whnf) | ((with_reducible refine bk_true ?_); conv => whnf) | ((with_reducible refine bk_false ?_); conv => whnf) | ((with_reducible refine bk_nt ?_); conv => whnf) | ((with_reducible refine bk_nf ?_); conv => whnf))))
            have e1 : intAr .add .i64 (i : Int) 1 = ((i + 1 : Nat) : Int) := by rw [add64 (by omega) (by omega)]; omega
            rw [e1]
            refine And.intro (by omega) ?_
            ((conv => whnf) <;> (repeat (first | (refine And.intro (by first | omega | exact rfl) ?_; conv => whnf) | ((with_reducible refine bk_true ?_); conv => whnf) | ((with_reducible refine bk_false ?_); conv => whnf) | ((with_reducible refine bk_nt ?_); conv => whnf) | ((with_reducible refine bk_nf ?_); conv => whnf))))
            refine ⟨_, rfl, rfl, by rw [upto_len]; omega, ?_⟩
            ((conv => whnf) <;> (repeat (first | (refine And.intro (by first | omega | exact rfl) ?_; conv => whnf) | ((with_reducible refine bk_true ?_); conv => whnf) | ((with_reducible refine bk_false ?_); conv => whnf) | ((with_reducible refine bk_nt ?_); conv => whnf) | ((with_reducible refine bk_nf ?_); conv => whnf))))
            refine ⟨i + 1, ⟨by omega, by omega⟩, (show d.length - (i + 1) < d.length - i by omega), ?_⟩
            (refine ⟨⟨rfl, rfl⟩, ?_, ?_⟩ <;> (repeat' (first | exact TLe.nil | exact HLe.nil _ | refine TLe.cons ?_ ?_ | refine HLe.cons ?_ ?_ | exact KLe.ptr rfl | exact KLe.sl rfl (.inl rfl) | exact KLe.csl rfl | refine KLe.pe ?_ | refine BLe.pe ?_ | refine BLe.mx ?_ | exact KLeL.nil | refine KLe.fn ?_ ?_ | refine KLeL.cons ?_ ?_ | exact KLe.und _ | exact BLe.dead _)) <;> (try with_reducible rfl))
            all_goals first | ((refine congrArg (PV.int IntKind.i64) ?_) <;> (first | rfl | omega | (rw [add64 (by omega) (by omega)]; omega) | (rw [sub64 (by omega) (by omega)]; omega))) | skip
            all_goals first | exact congrArg (PV.int .i64) (by rw [add64 (by omega) (by omega), ← fin _ (hk.yes hck)]; omega) | skip
            all_goals
              refine congrArg (fun r => [r]) ?_
              have e2 : intAr .add .i64 (k : Int) 1 = (bord d (i + 1) : Int) := by rw [add64 (by omega) (by omega), ← fin _ (hk.yes hck)]; omega
              rw [e2, Nat.zero_add, Nat.mul_one, Int.toNat_natCast]
              exact upto_set (f := fun n => i64 (bord d n)) (by omega)
        · have hb : (k : Int) ≤ 0 := gtr_f hb
          obtain rfl : k = 0 := by omega
          ((conv => whnf) <;> (repeat (first | (refine And.intro (by first | omega | exact rfl) ?_; conv => whnf) | ((with_reducible refine bk_true ?_); conv => whnf) | ((with_reducible refine bk_false ?_); conv => whnf) | ((with_reducible refine bk_nt ?_); conv => whnf) | ((with_reducible refine bk_nf ?_); conv => whnf))))
          refine ⟨e, he, ?_⟩
          ((conv => whnf) <;> (repeat (first | (refine And.intro (by first | omega | exact rfl) ?_; conv => whnf) | ((with_reducible refine bk_true ?_); conv => whnf) | ((with_reducible refine bk_false ?_); conv => whnf) | ((with_reducible refine bk_nt ?_); conv => whnf) | ((with_reducible refine bk_nf ?_); conv => whnf))))
          refine ⟨c, hc, ?_⟩
          ((conv => whnf) <;> (repeat (first | (refine And.intro (by first | omega | exact rfl) ?_; conv => whnf) | ((with_reducible refine bk_true ?_); conv => whnf) | ((with_reducible refine bk_false ?_); conv => whnf) | ((with_reducible refine bk_nt ?_); conv => whnf) | ((with_reducible refine bk_nf ?_); conv => whnf))))
          (refine bk_split (fun hb => ?_) (fun hb => ?_))
          · have hee := eqc (eql_t hb)
            subst hee
            have hck := he
            ((conv => whnf) <;> (repeat (first | (refine And.intro (by first | omega | exact rfl) ?_; conv => whnf) | ((with_reducible refine bk_true ?_); conv => whnf) | ((with_reducible refine bk_false ?_); conv => whnf) | ((with_reducible refine bk_nt ?_); conv => whnf) | ((with_reducible refine bk_nf ?_); conv => whnf))))
            have e1 : intAr .add .i64 (i : Int) 1 = ((i + 1 : Nat) : Int) := by rw [add64 (by omega) (by omega)]; omega
            rw [e1]
            refine And.intro (by omega) ?_
            ((conv => whnf) <;> (repeat (first | (refine And.intro (by first | omega | exact rfl) ?_; conv => whnf) | ((with_reducible refine bk_true ?_); conv => whnf) | ((with_reducible refine bk_false ?_); conv => whnf) | ((with_reducible refine bk_nt ?_); conv => whnf) | ((with_reducible refine bk_nf ?_); conv => whnf))))
            refine ⟨_, rfl, rfl, by rw [upto_len]; omega, ?_⟩
            ((conv => whnf) <;> (repeat (first | (refine And.intro (by first | omega | exact rfl) ?_; conv => whnf) | ((with_reducible refine bk_true ?_); conv => whnf) | ((with_reducible refine bk_false ?_); conv => whnf) | ((with_reducible refine bk_nt ?_); conv => whnf) | ((with_reducible refine bk_nf ?_); conv => whnf))))
            refine ⟨i + 1, ⟨by omega, by omega⟩, (show d.length - (i + 1) < d.length - i by omega), ?_⟩
            (refine ⟨⟨rfl, rfl⟩, ?_, ?_⟩ <;> (repeat' (first | exact TLe.nil | exact HLe.nil _ | refine TLe.cons ?_ ?_ | refine HLe.cons ?_ ?_ | exact KLe.ptr rfl | exact KLe.sl rfl (.inl rfl) | exact KLe.csl rfl | refine KLe.pe ?_ | refine BLe.pe ?_ | refine BLe.mx ?_ | exact KLeL.nil | refine KLe.fn ?_ ?_ | refine KLeL.cons ?_ ?_ | exact KLe.und _ | exact BLe.dead _)) <;> (try with_reducible rfl))
            all_goals first | ((refine congrArg (PV.int IntKind.i64) ?_) <;> (first | rfl | omega | (rw [add64 (by omega) (by omega)]; omega) | (rw [sub64 (by omega) (by omega)]; omega))) | skip
            all_goals first | exact congrArg (PV.int .i64) (by rw [add64 (by omega) (by omega), ← fin _ (hk.yes hck)]; omega) | skip
            all_goals
              refine congrArg (fun r => [r]) ?_
              have e2 : intAr .add .i64 ((0 : Nat) : Int) 1 = (bord d (i + 1) : Int) := by rw [add64 (by omega) (by omega), ← fin _ (hk.yes hck)]; omega
              rw [e2, Nat.zero_add, Nat.mul_one, Int.toNat_natCast]
              exact upto_set (f := fun n => i64 (bord d n)) (by omega)
          · have hne := eql_f hb
            have hck : d[0]? ≠ some c := fun h => hne (by rw [he] at h; cases h; rfl)
            ((conv => whnf) <;> (repeat (first | (refine And.intro (by first | omega | exact rfl) ?_; conv => whnf) | ((with_reducible refine bk_true ?_); conv => whnf) | ((with_reducible refine bk_false ?_); conv => whnf) | ((with_reducible refine bk_nt ?_); conv => whnf) | ((with_reducible refine bk_nf ?_); conv => whnf))))
            have e1 : intAr .add .i64 (i : Int) 1 = ((i + 1 : Nat) : Int) := by rw [add64 (by omega) (by omega)]; omega
            rw [e1]
            refine And.intro (by omega) ?_
            ((conv => whnf) <;> (repeat (first | (refine And.intro (by first | omega | exact rfl) ?_; conv => whnf) | ((with_reducible refine bk_true ?_); conv => whnf) | ((with_reducible refine bk_false ?_); conv => whnf) | ((with_reducible refine bk_nt ?_); conv => whnf) | ((with_reducible refine bk_nf ?_); conv => whnf))))
            refine ⟨_, rfl, rfl, by rw [upto_len]; omega, ?_⟩
            ((conv => whnf) <;> (repeat (first | (refine And.intro (by first | omega | exact rfl) ?_; conv => whnf) | ((with_reducible refine bk_true ?_); conv => whnf) | ((with_reducible refine bk_false ?_); conv => whnf) | ((with_reducible refine bk_nt ?_); conv => whnf) | ((with_reducible refine bk_nf ?_); conv => whnf))))
            refine ⟨i + 1, ⟨by omega, by omega⟩, (show d.length - (i + 1) < d.length - i by omega), ?_⟩
            (refine ⟨⟨rfl, rfl⟩, ?_, ?_⟩ <;> (repeat' (first | exact TLe.nil | exact HLe.nil _ | refine TLe.cons ?_ ?_ | refine HLe.cons ?_ ?_ | exact KLe.ptr rfl | exact KLe.sl rfl (.inl rfl) | exact KLe.csl rfl | refine KLe.pe ?_ | refine BLe.pe ?_ | refine BLe.mx ?_ | exact KLeL.nil | refine KLe.fn ?_ ?_ | refine KLeL.cons ?_ ?_ | exact KLe.und _ | exact BLe.dead _)) <;> (try with_reducible rfl))
            all_goals first | ((refine congrArg (PV.int IntKind.i64) ?_) <;> (first | rfl | omega | (rw [add64 (by omega) (by omega)]; omega) | (rw [sub64 (by omega) (by omega)]; omega))) | skip
            all_goals first | exact congrArg (PV.int .i64) (by rw [← fin _ (hk.no hck)]) | skip
            all_goals
              refine congrArg (fun r => [r]) ?_
              have e2 : ((0 : Nat) : Int) = (bord d (i + 1) : Int) := by rw [← fin _ (hk.no hck)]
              rw [e2, Nat.zero_add, Nat.mul_one, Int.toNat_natCast]
              exact upto_set (f := fun n => i64 (bord d n)) (by omega)
    · have hb : (d.length : Int) ≤ i := lss_f hb
      obtain rfl : i = d.length := by omega
      have el : intAr .add .i64 (d.length : Int) 1 = ((d.length + 1 : Nat) : Int) := by rw [add64 (by omega) (by omega)]; omega
      ((conv => whnf) <;> (repeat (first | (refine And.intro (by first | omega | exact rfl) ?_; conv => whnf) | ((with_reducible refine bk_true ?_); conv => whnf) | ((with_reducible refine bk_false ?_); conv => whnf) | ((with_reducible refine bk_nt ?_); conv => whnf) | ((with_reducible refine bk_nf ?_); conv => whnf))))
      rw [el]
      refine And.intro (by unfold roomMost; omega) ?_
      ((conv => whnf) <;> (repeat (first | (refine And.intro (by first | omega | exact rfl) ?_; conv => whnf) | ((with_reducible refine bk_true ?_); conv => whnf) | ((with_reducible refine bk_false ?_); conv => whnf) | ((with_reducible refine bk_nt ?_); conv => whnf) | ((with_reducible refine bk_nf ?_); conv => whnf))))
      refine ⟨_, borders d, rfl, ?_, by simp [borders], ?_⟩
      · show List.map _ (List.take (((d.length + 1 : Nat) : Int).toNat - 0) (upto _ _ _ _)) = _
        rw [Int.toNat_natCast, Nat.sub_zero, upto_take (by omega), List.map_map]
        rfl
      ((conv => whnf) <;> (repeat (first | (refine And.intro (by first | omega | exact rfl) ?_; conv => whnf) | ((with_reducible refine bk_true ?_); conv => whnf) | ((with_reducible refine bk_false ?_); conv => whnf) | ((with_reducible refine bk_nt ?_); conv => whnf) | ((with_reducible refine bk_nf ?_); conv => whnf))))
      refine And.intro (by simp) ?_
      ((conv => whnf) <;> (repeat (first | (refine And.intro (by first | omega | exact rfl) ?_; conv => whnf) | ((with_reducible refine bk_true ?_); conv => whnf) | ((with_reducible refine bk_false ?_); conv => whnf) | ((with_reducible refine bk_nt ?_); conv => whnf) | ((with_reducible refine bk_nf ?_); conv => whnf))))
      have hbl : (borders d).length = d.length + 1 := by simp [borders]
      refine ⟨_, [], ⟨rfl, rfl⟩, ⟨rfl, rfl⟩, KLe.fsl (rs := borders d) rfl rfl ?_ (by rw [hbl, Int.toNat_natCast]) (.refl _), .nil _⟩
      show List.take _ (List.take 0 _ ++ List.take _ _ ++ List.drop _ _) = _
      simp only [Int.toNat_natCast, hbl, Nat.min_self, List.take_zero, List.nil_append, Nat.zero_add]
      rw [List.drop_of_length_le (by simp), List.append_nil, List.take_of_length_le (by simp [hbl]), List.take_of_length_le (by rw [hbl]; exact Nat.le_refl _)]

end Hk
