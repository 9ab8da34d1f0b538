/- The walks of the seeker's methods: New, is, byte. -/
import Derived.Test.YtmgkffdnnjpmpaaHkKmp
namespace Hk
open Go Go.Proofs
set_option linter.unusedVariables false
set_option maxRecDepth 100000

theorem borders_len (d : List UInt8) : (borders d).length = d.length + 1 := by simp [borders]
theorem borders_get (d : List UInt8) {k : Nat} (h : k ≤ d.length) : (borders d)[k]? = some [i64 (bord d k)] := by
  simp [borders, List.getElem?_map, List.getElem?_range (show k < d.length + 1 by omega)]

/-- A seeker's cells. -/
def seeker (d : List UInt8) (h f s : Nat) (found : Bool) : List AV := [.p (.str d), .p (.isl 1 (borders d) none), .p (i64 h), .p (i64 f), .p (i64 s), .p (.b found)]

theorem New_yes (d : List UInt8) (h1 : 1 ≤ d.length) (h2 : d.length ≤ 64) :
    Fn Try.prog 27 ([.str d].map .p) [] [] (fun r H' => r = .tup [.ptr 0 6 0 0, .p (i64 0)] ∧ H' = [.mx (seeker d 0 0 0 false)]) := by
  refine fn_intro rf27_eq kmixed (F := Fn Try.prog) (fun _ _ _ _ _ h => h) rfl ?_
  ((conv => whnf) <;> (repeat (first | (refine And.intro (by first | omega | exact rfl) ?_; conv => whnf) | ((with_reducible refine bk_true ?_); conv => whnf) | ((with_reducible refine bk_false ?_); conv => whnf) | ((with_reducible refine bk_nt ?_); conv => whnf) | ((with_reducible refine bk_nf ?_); conv => whnf))))
  rw [show strCm .eql d [] = false by cases d with | nil => simp at h1 | cons x r => rfl]
  ((conv => whnf) <;> (repeat (first | (refine And.intro (by first | omega | exact rfl) ?_; conv => whnf) | ((with_reducible refine bk_true ?_); conv => whnf) | ((with_reducible refine bk_false ?_); conv => whnf) | ((with_reducible refine bk_nt ?_); conv => whnf) | ((with_reducible refine bk_nf ?_); conv => whnf))))
  refine vcall_pf (right_fn d) rfl rfl ?_
  rw [decide_eq_true (⟨by omega, h2⟩ : 0 < d.length ∧ d.length ≤ 64)]
  ((conv => whnf) <;> (repeat (first | (refine And.intro (by first | omega | exact rfl) ?_; conv => whnf) | ((with_reducible refine bk_true ?_); conv => whnf) | ((with_reducible refine bk_false ?_); conv => whnf) | ((with_reducible refine bk_nt ?_); conv => whnf) | ((with_reducible refine bk_nf ?_); conv => whnf))))
  refine vcall_pf (back_fn d h1 h2) rfl rfl ?_
  ((conv => whnf) <;> (repeat (first | (refine And.intro (by first | omega | exact rfl) ?_; conv => whnf) | ((with_reducible refine bk_true ?_); conv => whnf) | ((with_reducible refine bk_false ?_); conv => whnf) | ((with_reducible refine bk_nt ?_); conv => whnf) | ((with_reducible refine bk_nf ?_); conv => whnf))))
  (refine ⟨_, _, ⟨rfl, rfl⟩, ⟨rfl, rfl⟩, ?_, ?_⟩ <;> (repeat' (first | exact HLe.nil _ | refine HLe.cons ?_ ?_ | exact KLe.ptr rfl | exact KLe.sl rfl (.inl rfl) | exact KLe.csl rfl | refine KLe.pe ?_ | refine KLe.tup ?_ | refine KLe.agg ?_ | refine BLe.pe ?_ | refine BLe.mx ?_ | exact KLeL.nil | refine KLe.fn ?_ ?_ | refine KLeL.cons ?_ ?_ | exact KLe.und _ | exact BLe.dead _)) <;> (try with_reducible rfl))
  all_goals rfl

theorem New_nil : Fn Try.prog 27 ([.str []].map .p) [] [] (fun r H' => r = .tup [.p (.lit (.pointer none)), .p (i64 1)] ∧ H' = []) := by
  refine fn_intro rf27_eq kmixed (F := Fn Try.prog) (fun _ _ _ _ _ h => h) rfl ?_
  ((conv => whnf) <;> (repeat (first | (refine And.intro (by first | omega | exact rfl) ?_; conv => whnf) | ((with_reducible refine bk_true ?_); conv => whnf) | ((with_reducible refine bk_false ?_); conv => whnf) | ((with_reducible refine bk_nt ?_); conv => whnf) | ((with_reducible refine bk_nf ?_); conv => whnf))))
  (refine ⟨_, _, ⟨rfl, rfl⟩, ⟨rfl, rfl⟩, ?_, ?_⟩ <;> (repeat' (first | exact HLe.nil _ | refine HLe.cons ?_ ?_ | exact KLe.ptr rfl | exact KLe.sl rfl (.inl rfl) | exact KLe.csl rfl | refine KLe.pe ?_ | refine KLe.tup ?_ | refine KLe.agg ?_ | refine BLe.pe ?_ | refine BLe.mx ?_ | exact KLeL.nil | refine KLe.fn ?_ ?_ | refine KLeL.cons ?_ ?_ | exact KLe.und _ | exact BLe.dead _)) <;> (try with_reducible rfl))

theorem New_long (d : List UInt8) (h2 : 64 < d.length) : Fn Try.prog 27 ([.str d].map .p) [] [] (fun r H' => r = .tup [.p (.lit (.pointer none)), .p (i64 4)] ∧ H' = []) := by
  refine fn_intro rf27_eq kmixed (F := Fn Try.prog) (fun _ _ _ _ _ h => h) rfl ?_
  ((conv => whnf) <;> (repeat (first | (refine And.intro (by first | omega | exact rfl) ?_; conv => whnf) | ((with_reducible refine bk_true ?_); conv => whnf) | ((with_reducible refine bk_false ?_); conv => whnf) | ((with_reducible refine bk_nt ?_); conv => whnf) | ((with_reducible refine bk_nf ?_); conv => whnf))))
  rw [show strCm .eql d [] = false by cases d with | nil => simp at h2 | cons x r => rfl]
  ((conv => whnf) <;> (repeat (first | (refine And.intro (by first | omega | exact rfl) ?_; conv => whnf) | ((with_reducible refine bk_true ?_); conv => whnf) | ((with_reducible refine bk_false ?_); conv => whnf) | ((with_reducible refine bk_nt ?_); conv => whnf) | ((with_reducible refine bk_nf ?_); conv => whnf))))
  refine vcall_pf (right_fn d) rfl rfl ?_
  rw [decide_eq_false (by omega : ¬ (0 < d.length ∧ d.length ≤ 64))]
  ((conv => whnf) <;> (repeat (first | (refine And.intro (by first | omega | exact rfl) ?_; conv => whnf) | ((with_reducible refine bk_true ?_); conv => whnf) | ((with_reducible refine bk_false ?_); conv => whnf) | ((with_reducible refine bk_nt ?_); conv => whnf) | ((with_reducible refine bk_nf ?_); conv => whnf))))
  (refine ⟨_, _, ⟨rfl, rfl⟩, ⟨rfl, rfl⟩, ?_, ?_⟩ <;> (repeat' (first | exact HLe.nil _ | refine HLe.cons ?_ ?_ | exact KLe.ptr rfl | exact KLe.sl rfl (.inl rfl) | exact KLe.csl rfl | refine KLe.pe ?_ | refine KLe.tup ?_ | refine KLe.agg ?_ | refine BLe.pe ?_ | refine BLe.mx ?_ | exact KLeL.nil | refine KLe.fn ?_ ?_ | refine KLeL.cons ?_ ?_ | exact KLe.und _ | exact BLe.dead _)) <;> (try with_reducible rfl))

theorem is_fn (d : List UInt8) (h f s : Nat) (b : Bool) (c e : UInt8) (he : d[h]? = some e) (hs : s < 2 ^ 62) :
    Fn Try.prog 85 [.ptr 0 6 0 0, .p (.int .u8 c.toNat)] [.mx (seeker d h f s b)] []
      (fun r H' => r = .p (.b (decide (e = c))) ∧ H' = [.mx (seeker d h f (s + 1) b)]) := by
  refine fn_intro rf85_eq kmixed (F := Fn Try.prog) (fun _ _ _ _ _ h => h) rfl ?_
  ((conv => whnf) <;> (repeat (first | (refine And.intro (by first | omega | exact rfl) ?_; conv => whnf) | ((with_reducible refine bk_true ?_); conv => whnf) | ((with_reducible refine bk_false ?_); conv => whnf) | ((with_reducible refine bk_nt ?_); conv => whnf) | ((with_reducible refine bk_nf ?_); conv => whnf))))
  refine ⟨e, he, ?_⟩
  ((conv => whnf) <;> (repeat (first | (refine And.intro (by first | omega | exact rfl) ?_; conv => whnf) | ((with_reducible refine bk_true ?_); conv => whnf) | ((with_reducible refine bk_false ?_); conv => whnf) | ((with_reducible refine bk_nt ?_); conv => whnf) | ((with_reducible refine bk_nf ?_); conv => whnf))))
  (refine ⟨_, _, ⟨rfl, rfl⟩, ⟨rfl, rfl⟩, ?_, ?_⟩ <;> (repeat' (first | exact HLe.nil _ | refine HLe.cons ?_ ?_ | exact KLe.ptr rfl | exact KLe.sl rfl (.inl rfl) | exact KLe.csl rfl | refine KLe.pe ?_ | refine KLe.tup ?_ | refine KLe.agg ?_ | refine BLe.pe ?_ | refine BLe.mx ?_ | exact KLeL.nil | refine KLe.fn ?_ ?_ | refine KLeL.cons ?_ ?_ | exact KLe.und _ | exact BLe.dead _)) <;> (try with_reducible rfl))
  · refine congrArg PV.b ?_
    show decide ((e.toNat : Int) = c.toNat) = _
    by_cases hec : e = c
    · simp [hec]
    · rw [decide_eq_false hec, decide_eq_false fun h => hec (UInt8.toNat_inj.1 (by omega))]
  · ((refine congrArg (PV.int IntKind.i64) ?_) <;> (first | rfl | omega | (rw [add64 (by omega) (by omega)]; omega) | (rw [sub64 (by omega) (by omega)]; omega)))

theorem byte_fn (d T : List UInt8) (h f s : Nat) (b : Bool) (c : UInt8) (hT : Hold d T h) (hl : h < d.length) (hd : d.length ≤ 64) (hs : s < 2 ^ 61) (hf : f < 2 ^ 61) :
    Fn Try.prog 67 [.ptr 0 6 0 0, .p (.int .u8 c.toNat)] [.mx (seeker d h f s b)] []
      (fun r H' => ∃ h' s', Hold d (T ++ [c]) h' ∧ s' + h' ≤ s + h + 2 ∧ r = .p (.b (decide (h' = d.length))) ∧ H' = [.mx (seeker d h' (f + 1) s' b)]) := by
  refine fn_intro rf67_eq kmixed (F := Fn Try.prog) (fun _ _ _ _ _ h => h) rfl ?_
  ((conv => whnf) <;> (repeat (first | (refine And.intro (by first | omega | exact rfl) ?_; conv => whnf) | ((with_reducible refine bk_true ?_); conv => whnf) | ((with_reducible refine bk_false ?_); conv => whnf) | ((with_reducible refine bk_nt ?_); conv => whnf) | ((with_reducible refine bk_nf ?_); conv => whnf))))
  refine ⟨[], Nat × Nat, fun x => ⟨[(0, .ptr 0 6 0 0), (1, .p (.int .u8 c.toNat)), (5, .fn 85 [.ptr 0 6 0 0] [])], [.mx (seeker d x.1 (f + 1) x.2 b)]⟩,
    fun x => Cand d T c x.1 ∧ x.2 + x.1 ≤ s + h, fun x => x.1, ⟨(h, s), ⟨hT.cand hl c, Nat.le_refl _⟩, ?_⟩, fun x hx => ?_⟩
  · (refine ⟨⟨rfl, rfl⟩, ?_, ?_⟩ <;> (repeat' (first | exact TLe.nil | exact HLe.nil _ | refine TLe.cons ?_ ?_ | refine HLe.cons ?_ ?_ | exact KLe.ptr rfl | exact KLe.sl rfl (.inl rfl) | exact KLe.csl rfl | refine KLe.pe ?_ | refine BLe.pe ?_ | refine BLe.mx ?_ | exact KLeL.nil | refine KLe.fn ?_ ?_ | refine KLeL.cons ?_ ?_ | exact KLe.und _ | exact BLe.dead _)) <;> (try with_reducible rfl))
    all_goals ((refine congrArg (PV.int IntKind.i64) ?_) <;> (first | rfl | omega | (rw [add64 (by omega) (by omega)]; omega) | (rw [sub64 (by omega) (by omega)]; omega)))
  · obtain ⟨k, n⟩ := x
    obtain ⟨hk, hn⟩ := hx
    have hk : Cand d T c k := hk
    have hn : n + k ≤ s + h := hn
    have hkl := hk.2.1
    obtain ⟨e, he⟩ : ∃ e, d[k]? = some e := ⟨_, List.getElem?_eq_getElem hkl⟩
    ((conv => whnf) <;> (repeat (first | (refine And.intro (by first | omega | exact rfl) ?_; conv => whnf) | ((with_reducible refine bk_true ?_); conv => whnf) | ((with_reducible refine bk_false ?_); conv => whnf) | ((with_reducible refine bk_nt ?_); conv => whnf) | ((with_reducible refine bk_nf ?_); conv => whnf))))
    refine vcall_own [0] (is_fn d k (f + 1) n b c e he (by omega)) rfl rfl (.cons (.ptr rfl) (.cons (.pe rfl) .nil)) ?_
    rintro r H' ⟨rfl, rfl⟩
    by_cases hec : e = c
    · rw [decide_eq_true hec]
      ((conv => whnf) <;> (repeat (first | (refine And.intro (by first | omega | exact rfl) ?_; conv => whnf) | ((with_reducible refine bk_true ?_); conv => whnf) | ((with_reducible refine bk_false ?_); conv => whnf) | ((with_reducible refine bk_nt ?_); conv => whnf) | ((with_reducible refine bk_nf ?_); conv => whnf))))
      refine ⟨.p (.b (decide (k + 1 = d.length))), [.mx (seeker d (k + 1) (f + 1) (n + 1) b)], ⟨k + 1, n + 1, hk.yes (hec ▸ he), by omega, rfl, rfl⟩, ⟨rfl, rfl⟩, ?_, ?_⟩ <;> ((repeat' (first | exact HLe.nil _ | refine HLe.cons ?_ ?_ | exact KLe.ptr rfl | exact KLe.sl rfl (.inl rfl) | exact KLe.csl rfl | refine KLe.pe ?_ | refine KLe.tup ?_ | refine KLe.agg ?_ | refine BLe.pe ?_ | refine BLe.mx ?_ | exact KLeL.nil | refine KLe.fn ?_ ?_ | refine KLeL.cons ?_ ?_ | exact KLe.und _ | exact BLe.dead _)) <;> (try with_reducible rfl))
      all_goals first | ((refine congrArg (PV.int IntKind.i64) ?_) <;> (first | rfl | omega | (rw [add64 (by omega) (by omega)]; omega) | (rw [sub64 (by omega) (by omega)]; omega))) | skip
      refine congrArg PV.b ?_
      rw [add64 (by omega) (by omega)]
      exact decide_eq_decide.2 (by omega)
    · rw [decide_eq_false hec]
      ((conv => whnf) <;> (repeat (first | (refine And.intro (by first | omega | exact rfl) ?_; conv => whnf) | ((with_reducible refine bk_true ?_); conv => whnf) | ((with_reducible refine bk_false ?_); conv => whnf) | ((with_reducible refine bk_nt ?_); conv => whnf) | ((with_reducible refine bk_nf ?_); conv => whnf))))
      (refine bk_split (fun hb => ?_) (fun hb => ?_))
      · have h0 : k = 0 := by have := eql_t hb; omega
        subst h0
        ((conv => whnf) <;> (repeat (first | (refine And.intro (by first | omega | exact rfl) ?_; conv => whnf) | ((with_reducible refine bk_true ?_); conv => whnf) | ((with_reducible refine bk_false ?_); conv => whnf) | ((with_reducible refine bk_nt ?_); conv => whnf) | ((with_reducible refine bk_nf ?_); conv => whnf))))
        refine ⟨.p (.b (decide (0 = d.length))), [.mx (seeker d 0 (f + 1) (n + 1) b)], ⟨0, n + 1, hk.no (fun h => hec (by rw [he] at h; exact Option.some.inj h)), by omega, rfl, rfl⟩, ⟨rfl, rfl⟩, ?_, ?_⟩ <;> ((repeat' (first | exact HLe.nil _ | refine HLe.cons ?_ ?_ | exact KLe.ptr rfl | exact KLe.sl rfl (.inl rfl) | exact KLe.csl rfl | refine KLe.pe ?_ | refine KLe.tup ?_ | refine KLe.agg ?_ | refine BLe.pe ?_ | refine BLe.mx ?_ | exact KLeL.nil | refine KLe.fn ?_ ?_ | refine KLeL.cons ?_ ?_ | exact KLe.und _ | exact BLe.dead _)) <;> (try with_reducible rfl))
        all_goals first | ((refine congrArg (PV.int IntKind.i64) ?_) <;> (first | rfl | omega | (rw [add64 (by omega) (by omega)]; omega) | (rw [sub64 (by omega) (by omega)]; omega))) | skip
        refine congrArg PV.b ?_
        rw [decide_eq_false (by omega)]
      · have h0 : (k : Int) ≠ 0 := eql_f hb
        have hbl := borders_len d
        ((conv => whnf) <;> (repeat (first | (refine And.intro (by first | omega | exact rfl) ?_; conv => whnf) | ((with_reducible refine bk_true ?_); conv => whnf) | ((with_reducible refine bk_false ?_); conv => whnf) | ((with_reducible refine bk_nt ?_); conv => whnf) | ((with_reducible refine bk_nf ?_); conv => whnf))))
        refine ⟨[i64 (bord d k)], by rw [Int.toNat_natCast]; exact borders_get d (by omega), ?_⟩
        ((conv => whnf) <;> (repeat (first | (refine And.intro (by first | omega | exact rfl) ?_; conv => whnf) | ((with_reducible refine bk_true ?_); conv => whnf) | ((with_reducible refine bk_false ?_); conv => whnf) | ((with_reducible refine bk_nt ?_); conv => whnf) | ((with_reducible refine bk_nf ?_); conv => whnf))))
        refine ⟨_, rfl, ?_⟩
        ((conv => whnf) <;> (repeat (first | (refine And.intro (by first | omega | exact rfl) ?_; conv => whnf) | ((with_reducible refine bk_true ?_); conv => whnf) | ((with_reducible refine bk_false ?_); conv => whnf) | ((with_reducible refine bk_nt ?_); conv => whnf) | ((with_reducible refine bk_nf ?_); conv => whnf))))
        refine And.intro ?_ trivial
        ((conv => whnf) <;> (repeat (first | (refine And.intro (by first | omega | exact rfl) ?_; conv => whnf) | ((with_reducible refine bk_true ?_); conv => whnf) | ((with_reducible refine bk_false ?_); conv => whnf) | ((with_reducible refine bk_nt ?_); conv => whnf) | ((with_reducible refine bk_nf ?_); conv => whnf))))
        refine ⟨(bord d k, n + 1), ⟨hk.back (fun h => hec (by rw [he] at h; exact Option.some.inj h)) (bord_spec d (by omega)), ?_⟩, bord_le d k (by omega), ?_⟩
        · show n + 1 + bord d k ≤ s + h
          have := bord_le d k (by omega)
          omega
        · (refine ⟨⟨rfl, rfl⟩, ?_, ?_⟩ <;> (repeat' (first | exact TLe.nil | exact HLe.nil _ | refine TLe.cons ?_ ?_ | refine HLe.cons ?_ ?_ | exact KLe.ptr rfl | exact KLe.sl rfl (.inl rfl) | exact KLe.csl rfl | refine KLe.pe ?_ | refine BLe.pe ?_ | refine BLe.mx ?_ | exact KLeL.nil | refine KLe.fn ?_ ?_ | refine KLeL.cons ?_ ?_ | exact KLe.und _ | exact BLe.dead _)) <;> (try with_reducible rfl))
          all_goals first | ((refine congrArg (PV.int IntKind.i64) ?_) <;> (first | rfl | omega | (rw [add64 (by omega) (by omega)]; omega) | (rw [sub64 (by omega) (by omega)]; omega))) | skip

end Hk
