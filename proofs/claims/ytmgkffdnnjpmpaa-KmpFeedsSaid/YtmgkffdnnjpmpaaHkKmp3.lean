/- The walks of the seeker's methods: Feed and what is asked of it. -/
import Derived.Test.YtmgkffdnnjpmpaaHkKmp2
namespace Hk
open Go Go.Proofs
set_option linter.unusedVariables false
set_option maxRecDepth 100000

theorem take_app (T p : List UInt8) (i : Nat) : (T ++ p).take (T.length + i) = T ++ p.take i := by
  rw [List.take_append, List.take_of_length_le (by omega), Nat.add_sub_cancel_left]

def FeedYes (d T p : List UInt8) (r : AV) (H' : List Blk) : Prop :=
  ∃ n s', n < p.length ∧ IsB d ((T ++ p).take (T.length + n + 1)) d.length ∧ (∀ e, T.length < e → e < T.length + n + 1 → ¬ IsB d ((T ++ p).take e) d.length) ∧
    s' ≤ 2 * (T.length + n + 1) ∧ r = .tup [.p (i64 ((n + 1 : Nat) : Int)), .p (.b true)] ∧ H' = [.mx (seeker d 0 (T.length + n + 1) s' true)]

def FeedNo (d T p : List UInt8) (r : AV) (H' : List Blk) : Prop :=
  ∃ h' s', Hold d (T ++ p) h' ∧ h' < d.length ∧ s' + h' ≤ 2 * (T.length + p.length) ∧ (∀ e, T.length < e → e ≤ T.length + p.length → ¬ IsB d ((T ++ p).take e) d.length) ∧
    r = .tup [.p (i64 (p.length : Int)), .p (.b false)] ∧ H' = [.mx (seeker d h' (T.length + p.length) s' false)]

theorem feed_fn (d T p : List UInt8) (h s : Nat) (hT : Hold d T h) (hl : h < d.length) (hd : d.length ≤ 64) (hs : s + h ≤ 2 * T.length) (hb : T.length + p.length < 2 ^ 50) :
    Fn Try.prog 29 [.ptr 0 6 0 0, .p (.str p)] [.mx (seeker d h T.length s false)] [] (fun r H' => FeedYes d T p r H' ∨ FeedNo d T p r H') := by
  refine fn_intro rf29_eq kmixed (F := Fn Try.prog) (fun _ _ _ _ _ h => h) rfl ?_
  ((conv => whnf) <;> (repeat (first | (refine And.intro (by first | omega | exact rfl) ?_; conv => whnf) | ((with_reducible refine bk_true ?_); conv => whnf) | ((with_reducible refine bk_false ?_); conv => whnf) | ((with_reducible refine bk_nt ?_); conv => whnf) | ((with_reducible refine bk_nf ?_); conv => whnf))))
  refine ⟨[], Nat × Nat × Nat, fun x => ⟨[(0, .ptr 0 6 0 0), (1, .p (.str p)), (14, .p (i64 p.length)), (15, .p (i64 x.1))], [.mx (seeker d x.2.1 (T.length + x.1) x.2.2 false)]⟩,
    fun x => x.1 ≤ p.length ∧ Hold d (T ++ p.take x.1) x.2.1 ∧ x.2.1 < d.length ∧ x.2.2 + x.2.1 ≤ 2 * (T.length + x.1) ∧ ∀ e, T.length < e → e ≤ T.length + x.1 → ¬ IsB d ((T ++ p).take e) d.length,
    fun x => p.length - x.1, ⟨(0, h, s), ⟨Nat.zero_le _, by simpa using hT, hl, hs, fun e h1 h2 => absurd h2 (by omega)⟩, ?_⟩, fun x hx => ?_⟩
  · (refine ⟨⟨rfl, rfl⟩, ?_, ?_⟩ <;> (repeat' (first | exact TLe.nil | exact HLe.nil _ | refine TLe.cons ?_ ?_ | refine HLe.cons ?_ ?_ | exact KLe.ptr rfl | exact KLe.sl rfl (.inl rfl) | exact KLe.csl rfl | refine KLe.pe ?_ | refine BLe.pe ?_ | refine BLe.mx ?_ | exact KLeL.nil | refine KLe.fn ?_ ?_ | refine KLeL.cons ?_ ?_ | exact KLe.und _ | exact BLe.dead _)) <;> (try with_reducible rfl))
    all_goals rfl
  · obtain ⟨i, k, n⟩ := x
    obtain ⟨hi, hk, hkl, hn, hno⟩ := hx
    have hi : i ≤ p.length := hi
    have hk : Hold d (T ++ p.take i) k := hk
    have hkl : k < d.length := hkl
    have hn : n + k ≤ 2 * (T.length + i) := hn
    have hno : ∀ e, T.length < e → e ≤ T.length + i → ¬ IsB d ((T ++ p).take e) d.length := hno
    ((conv => whnf) <;> (repeat (first | (refine And.intro (by first | omega | exact rfl) ?_; conv => whnf) | ((with_reducible refine bk_true ?_); conv => whnf) | ((with_reducible refine bk_false ?_); conv => whnf) | ((with_reducible refine bk_nt ?_); conv => whnf) | ((with_reducible refine bk_nf ?_); conv => whnf))))
    (refine bk_split (fun hb => ?_) (fun hb => ?_))
    · have hlt : i < p.length := by have := lss_t hb; omega
      obtain ⟨c, hc⟩ : ∃ c, p[i]? = some c := ⟨_, List.getElem?_eq_getElem hlt⟩
      have e1 : (T ++ p).take (T.length + i + 1) = (T ++ p.take i) ++ [c] := by
        rw [Nat.add_assoc, take_app, take_succ' hc, List.append_assoc]
      have e2 : T ++ p.take (i + 1) = (T ++ p.take i) ++ [c] := by rw [take_succ' hc, List.append_assoc]
      ((conv => whnf) <;> (repeat (first | (refine And.intro (by first | omega | exact rfl) ?_; conv => whnf) | ((with_reducible refine bk_true ?_); conv => whnf) | ((with_reducible refine bk_false ?_); conv => whnf) | ((with_reducible refine bk_nt ?_); conv => whnf) | ((with_reducible refine bk_nf ?_); conv => whnf))))
      refine ⟨c, by rw [Int.toNat_natCast]; exact hc, ?_⟩
      ((conv => whnf) <;> (repeat (first | (refine And.intro (by first | omega | exact rfl) ?_; conv => whnf) | ((with_reducible refine bk_true ?_); conv => whnf) | ((with_reducible refine bk_false ?_); conv => whnf) | ((with_reducible refine bk_nt ?_); conv => whnf) | ((with_reducible refine bk_nf ?_); conv => whnf))))
      refine vcall_own [0] (byte_fn d (T ++ p.take i) k (T.length + i) n false c hk hkl hd (by omega) (by omega)) rfl rfl (.cons (.ptr rfl) (.cons (.pe rfl) .nil)) ?_
      rintro r H' ⟨h', s', g1, g2, rfl, rfl⟩
      by_cases hw : h' = d.length
      · rw [decide_eq_true hw]
        ((conv => whnf) <;> (repeat (first | (refine And.intro (by first | omega | exact rfl) ?_; conv => whnf) | ((with_reducible refine bk_true ?_); conv => whnf) | ((with_reducible refine bk_false ?_); conv => whnf) | ((with_reducible refine bk_nt ?_); conv => whnf) | ((with_reducible refine bk_nf ?_); conv => whnf))))
        refine ⟨.tup [.p (i64 ((i + 1 : Nat) : Int)), .p (.b true)], [.mx (seeker d 0 (T.length + i + 1) s' true)], .inl ⟨i, s', hlt, ?_, ?_, by omega, rfl, rfl⟩, ⟨rfl, rfl⟩, ?_, ?_⟩
        · rw [e1]; exact hw ▸ g1.1
        · exact fun e h1 h2 => hno e h1 (by omega)
        all_goals ((repeat' (first | exact HLe.nil _ | refine HLe.cons ?_ ?_ | exact KLe.ptr rfl | exact KLe.sl rfl (.inl rfl) | exact KLe.csl rfl | refine KLe.pe ?_ | refine KLe.tup ?_ | refine KLe.agg ?_ | refine BLe.pe ?_ | refine BLe.mx ?_ | exact KLeL.nil | refine KLe.fn ?_ ?_ | refine KLeL.cons ?_ ?_ | exact KLe.und _ | exact BLe.dead _)) <;> (try with_reducible rfl))
        all_goals first | ((refine congrArg (PV.int IntKind.i64) ?_) <;> (first | rfl | omega | (rw [add64 (by omega) (by omega)]; omega) | (rw [sub64 (by omega) (by omega)]; omega))) | skip
      · rw [decide_eq_false hw]
        have hlt' : h' < d.length := by have := g1.1.1; omega
        ((conv => whnf) <;> (repeat (first | (refine And.intro (by first | omega | exact rfl) ?_; conv => whnf) | ((with_reducible refine bk_true ?_); conv => whnf) | ((with_reducible refine bk_false ?_); conv => whnf) | ((with_reducible refine bk_nt ?_); conv => whnf) | ((with_reducible refine bk_nf ?_); conv => whnf))))
        refine ⟨(i + 1, h', s'), ⟨hlt, (by rw [e2]; exact g1), hlt', (show s' + h' ≤ 2 * (T.length + (i + 1)) by omega), fun e h1 h2 => ?_⟩, (show p.length - (i + 1) < p.length - i by omega), ?_⟩
        · rcases Nat.lt_or_ge e (T.length + i + 1) with h3 | h3
          · exact hno e h1 (by omega)
          · have : e = T.length + i + 1 := by have : e ≤ T.length + (i + 1) := h2; omega
            rw [this, e1]
            exact fun h4 => absurd (g1.2 _ h4) (by omega)
        · (refine ⟨⟨rfl, rfl⟩, ?_, ?_⟩ <;> (repeat' (first | exact TLe.nil | exact HLe.nil _ | refine TLe.cons ?_ ?_ | refine HLe.cons ?_ ?_ | exact KLe.ptr rfl | exact KLe.sl rfl (.inl rfl) | exact KLe.csl rfl | refine KLe.pe ?_ | refine BLe.pe ?_ | refine BLe.mx ?_ | exact KLeL.nil | refine KLe.fn ?_ ?_ | refine KLeL.cons ?_ ?_ | exact KLe.und _ | exact BLe.dead _)) <;> (try with_reducible rfl))
          all_goals first | ((refine congrArg (PV.int IntKind.i64) ?_) <;> (first | rfl | omega | (rw [add64 (by omega) (by omega)]; omega) | (rw [sub64 (by omega) (by omega)]; omega))) | skip
    · have hlt : i = p.length := by have := lss_f hb; omega
      subst hlt
      ((conv => whnf) <;> (repeat (first | (refine And.intro (by first | omega | exact rfl) ?_; conv => whnf) | ((with_reducible refine bk_true ?_); conv => whnf) | ((with_reducible refine bk_false ?_); conv => whnf) | ((with_reducible refine bk_nt ?_); conv => whnf) | ((with_reducible refine bk_nf ?_); conv => whnf))))
      refine ⟨.tup [.p (i64 (p.length : Int)), .p (.b false)], [.mx (seeker d k (T.length + p.length) n false)], .inr ⟨k, n, by simpa using hk, hkl, hn, hno, rfl, rfl⟩, ⟨rfl, rfl⟩, ?_, ?_⟩
      all_goals ((repeat' (first | exact HLe.nil _ | refine HLe.cons ?_ ?_ | exact KLe.ptr rfl | exact KLe.sl rfl (.inl rfl) | exact KLe.csl rfl | refine KLe.pe ?_ | refine KLe.tup ?_ | refine KLe.agg ?_ | refine BLe.pe ?_ | refine BLe.mx ?_ | exact KLeL.nil | refine KLe.fn ?_ ?_ | refine KLeL.cons ?_ ?_ | exact KLe.und _ | exact BLe.dead _)) <;> (try with_reducible rfl))

theorem feed_done (d p : List UInt8) (h f s : Nat) :
    Fn Try.prog 29 [.ptr 0 6 0 0, .p (.str p)] [.mx (seeker d h f s true)] [] (fun r H' => r = .tup [.p (i64 0), .p (.b true)] ∧ H' = [.mx (seeker d h f s true)]) := by
  refine fn_intro rf29_eq kmixed (F := Fn Try.prog) (fun _ _ _ _ _ h => h) rfl ?_
  ((conv => whnf) <;> (repeat (first | (refine And.intro (by first | omega | exact rfl) ?_; conv => whnf) | ((with_reducible refine bk_true ?_); conv => whnf) | ((with_reducible refine bk_false ?_); conv => whnf) | ((with_reducible refine bk_nt ?_); conv => whnf) | ((with_reducible refine bk_nf ?_); conv => whnf))))
  (refine ⟨_, _, ⟨rfl, rfl⟩, ⟨rfl, rfl⟩, ?_, ?_⟩ <;> (repeat' (first | exact HLe.nil _ | refine HLe.cons ?_ ?_ | exact KLe.ptr rfl | exact KLe.sl rfl (.inl rfl) | exact KLe.csl rfl | refine KLe.pe ?_ | refine KLe.tup ?_ | refine KLe.agg ?_ | refine BLe.pe ?_ | refine BLe.mx ?_ | exact KLeL.nil | refine KLe.fn ?_ ?_ | refine KLeL.cons ?_ ?_ | exact KLe.und _ | exact BLe.dead _)) <;> (try with_reducible rfl))

theorem feed_nil (p : List UInt8) : Fn Try.prog 29 ([.lit (.pointer none), .str p].map .p) [] [] (fun r H' => r = .tup [.p (i64 0), .p (.b false)] ∧ H' = []) := by
  refine fn_intro rf29_eq kmixed (F := Fn Try.prog) (fun _ _ _ _ _ h => h) rfl ?_
  ((conv => whnf) <;> (repeat (first | (refine And.intro (by first | omega | exact rfl) ?_; conv => whnf) | ((with_reducible refine bk_true ?_); conv => whnf) | ((with_reducible refine bk_false ?_); conv => whnf) | ((with_reducible refine bk_nt ?_); conv => whnf) | ((with_reducible refine bk_nf ?_); conv => whnf))))
  (refine ⟨_, _, ⟨rfl, rfl⟩, ⟨rfl, rfl⟩, ?_, ?_⟩ <;> (repeat' (first | exact HLe.nil _ | refine HLe.cons ?_ ?_ | exact KLe.ptr rfl | exact KLe.sl rfl (.inl rfl) | exact KLe.csl rfl | refine KLe.pe ?_ | refine KLe.tup ?_ | refine KLe.agg ?_ | refine BLe.pe ?_ | refine BLe.mx ?_ | exact KLeL.nil | refine KLe.fn ?_ ?_ | refine KLeL.cons ?_ ?_ | exact KLe.und _ | exact BLe.dead _)) <;> (try with_reducible rfl))

theorem held_fn (d : List UInt8) (h f s : Nat) (b : Bool) : RF Try.prog 31 [.ptr 0 6 0 0] [.mx (seeker d h f s b)] (i64 h) := by
  refine fn_intro rf31_eq kmixed (F := Fn Try.prog) (fun _ _ _ _ _ h => h) rfl ?_
  ((conv => whnf) <;> (repeat (first | (refine And.intro (by first | omega | exact rfl) ?_; conv => whnf) | ((with_reducible refine bk_true ?_); conv => whnf) | ((with_reducible refine bk_false ?_); conv => whnf) | ((with_reducible refine bk_nt ?_); conv => whnf) | ((with_reducible refine bk_nf ?_); conv => whnf))))
  (refine ⟨_, _, ⟨rfl, rfl⟩, ⟨rfl, rfl⟩, ?_, ?_⟩ <;> (repeat' (first | exact HLe.nil _ | refine HLe.cons ?_ ?_ | exact KLe.ptr rfl | exact KLe.sl rfl (.inl rfl) | exact KLe.csl rfl | refine KLe.pe ?_ | refine KLe.tup ?_ | refine KLe.agg ?_ | refine BLe.pe ?_ | refine BLe.mx ?_ | exact KLeL.nil | refine KLe.fn ?_ ?_ | refine KLeL.cons ?_ ?_ | exact KLe.und _ | exact BLe.dead _)) <;> (try with_reducible rfl))
theorem fed_fn (d : List UInt8) (h f s : Nat) (b : Bool) : RF Try.prog 32 [.ptr 0 6 0 0] [.mx (seeker d h f s b)] (i64 f) := by
  refine fn_intro rf32_eq kmixed (F := Fn Try.prog) (fun _ _ _ _ _ h => h) rfl ?_
  ((conv => whnf) <;> (repeat (first | (refine And.intro (by first | omega | exact rfl) ?_; conv => whnf) | ((with_reducible refine bk_true ?_); conv => whnf) | ((with_reducible refine bk_false ?_); conv => whnf) | ((with_reducible refine bk_nt ?_); conv => whnf) | ((with_reducible refine bk_nf ?_); conv => whnf))))
  (refine ⟨_, _, ⟨rfl, rfl⟩, ⟨rfl, rfl⟩, ?_, ?_⟩ <;> (repeat' (first | exact HLe.nil _ | refine HLe.cons ?_ ?_ | exact KLe.ptr rfl | exact KLe.sl rfl (.inl rfl) | exact KLe.csl rfl | refine KLe.pe ?_ | refine KLe.tup ?_ | refine KLe.agg ?_ | refine BLe.pe ?_ | refine BLe.mx ?_ | exact KLeL.nil | refine KLe.fn ?_ ?_ | refine KLeL.cons ?_ ?_ | exact KLe.und _ | exact BLe.dead _)) <;> (try with_reducible rfl))
theorem steps_fn (d : List UInt8) (h f s : Nat) (b : Bool) : RF Try.prog 33 [.ptr 0 6 0 0] [.mx (seeker d h f s b)] (i64 s) := by
  refine fn_intro rf33_eq kmixed (F := Fn Try.prog) (fun _ _ _ _ _ h => h) rfl ?_
  ((conv => whnf) <;> (repeat (first | (refine And.intro (by first | omega | exact rfl) ?_; conv => whnf) | ((with_reducible refine bk_true ?_); conv => whnf) | ((with_reducible refine bk_false ?_); conv => whnf) | ((with_reducible refine bk_nt ?_); conv => whnf) | ((with_reducible refine bk_nf ?_); conv => whnf))))
  (refine ⟨_, _, ⟨rfl, rfl⟩, ⟨rfl, rfl⟩, ?_, ?_⟩ <;> (repeat' (first | exact HLe.nil _ | refine HLe.cons ?_ ?_ | exact KLe.ptr rfl | exact KLe.sl rfl (.inl rfl) | exact KLe.csl rfl | refine KLe.pe ?_ | refine KLe.tup ?_ | refine KLe.agg ?_ | refine BLe.pe ?_ | refine BLe.mx ?_ | exact KLeL.nil | refine KLe.fn ?_ ?_ | refine KLeL.cons ?_ ?_ | exact KLe.und _ | exact BLe.dead _)) <;> (try with_reducible rfl))
theorem held_nil : PF Try.prog 31 [.lit (.pointer none)] (i64 0) := by
  refine pf_intro rf31_eq kmixed rfl ?_
  ((conv => whnf) <;> (repeat (first | (refine And.intro (by first | omega | exact rfl) ?_; conv => whnf) | ((with_reducible refine bk_true ?_); conv => whnf) | ((with_reducible refine bk_false ?_); conv => whnf) | ((with_reducible refine bk_nt ?_); conv => whnf) | ((with_reducible refine bk_nf ?_); conv => whnf))))
  refine bk_true ?_
  ((conv => whnf) <;> (repeat (first | (refine And.intro (by first | omega | exact rfl) ?_; conv => whnf) | ((with_reducible refine bk_true ?_); conv => whnf) | ((with_reducible refine bk_false ?_); conv => whnf) | ((with_reducible refine bk_nt ?_); conv => whnf) | ((with_reducible refine bk_nf ?_); conv => whnf))))
  refine ret_pf rfl rfl rfl
theorem fed_nil : PF Try.prog 32 [.lit (.pointer none)] (i64 0) := by
  refine pf_intro rf32_eq kmixed rfl ?_
  ((conv => whnf) <;> (repeat (first | (refine And.intro (by first | omega | exact rfl) ?_; conv => whnf) | ((with_reducible refine bk_true ?_); conv => whnf) | ((with_reducible refine bk_false ?_); conv => whnf) | ((with_reducible refine bk_nt ?_); conv => whnf) | ((with_reducible refine bk_nf ?_); conv => whnf))))
  refine bk_true ?_
  ((conv => whnf) <;> (repeat (first | (refine And.intro (by first | omega | exact rfl) ?_; conv => whnf) | ((with_reducible refine bk_true ?_); conv => whnf) | ((with_reducible refine bk_false ?_); conv => whnf) | ((with_reducible refine bk_nt ?_); conv => whnf) | ((with_reducible refine bk_nf ?_); conv => whnf))))
  refine ret_pf rfl rfl rfl
theorem steps_nil : PF Try.prog 33 [.lit (.pointer none)] (i64 0) := by
  refine pf_intro rf33_eq kmixed rfl ?_
  ((conv => whnf) <;> (repeat (first | (refine And.intro (by first | omega | exact rfl) ?_; conv => whnf) | ((with_reducible refine bk_true ?_); conv => whnf) | ((with_reducible refine bk_false ?_); conv => whnf) | ((with_reducible refine bk_nt ?_); conv => whnf) | ((with_reducible refine bk_nf ?_); conv => whnf))))
  refine bk_true ?_
  ((conv => whnf) <;> (repeat (first | (refine And.intro (by first | omega | exact rfl) ?_; conv => whnf) | ((with_reducible refine bk_true ?_); conv => whnf) | ((with_reducible refine bk_false ?_); conv => whnf) | ((with_reducible refine bk_nt ?_); conv => whnf) | ((with_reducible refine bk_nf ?_); conv => whnf))))
  refine ret_pf rfl rfl rfl

end Hk
