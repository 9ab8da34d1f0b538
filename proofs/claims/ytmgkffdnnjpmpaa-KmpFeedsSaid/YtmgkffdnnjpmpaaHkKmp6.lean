/- The walk of KmpFeeds. -/
import Derived.Test.YtmgkffdnnjpmpaaHkKmp5
namespace Hk
open Go Go.Proofs
set_option linter.unusedVariables false
set_option maxRecDepth 100000

def texts (w : Nat) (cap : Option Nat) (ps : List (List UInt8)) : PV := .isl w (ps.map fun p => [.str p]) cap

/-- How a loop stands: not found yet (place, all, held, steps), or found (place, all, fed, steps). -/
inductive FS where
  | opn (i : Nat) (T : List UInt8) (h s : Nat)
  | dn (i : Nat) (T : List UInt8) (f s : Nat)

def FS.st (w : Nat) (cap : Option Nat) (ps : List (List UInt8)) (d : List UInt8) : FS → St
  | .opn i T h s => ⟨[(0, .p (texts w cap ps)), (1, .p (.str d)), (5, .ptr 0 6 0 0), (7, .p (.str T)), (8, .p (.b false)), (9, .p (i64 i))], [.mx (seeker d h T.length s false)]⟩
  | .dn i T f s => ⟨[(0, .p (texts w cap ps)), (1, .p (.str d)), (5, .ptr 0 6 0 0), (7, .p (.str T)), (8, .p (.b true)), (9, .p (i64 i))], [.mx (seeker d 0 f s true)]⟩

def FS.ok (ps : List (List UInt8)) (d : List UInt8) : FS → Prop
  | .opn i T h s => i ≤ ps.length ∧ T.length ≤ 100 * i ∧ Hold d T h ∧ h < d.length ∧ s + h ≤ 2 * T.length ∧ ∀ k, k ≤ T.length → ¬ IsB d (T.take k) d.length
  | .dn i T f s => i ≤ ps.length ∧ s ≤ 2 * f ∧ f ≤ 6000

def FS.mu (ps : List (List UInt8)) : FS → Nat
  | .opn i T h s => ps.length - i
  | .dn i T f s => ps.length - i

theorem KmpFeeds_fn (w : Nat) (cap : Option Nat) (ps : List (List UInt8)) (d : List UInt8) (hw : ps = [] ∨ w = 1) : PF Try.prog 9 [texts w cap ps, .str d] (.b true) := by
  refine pf_intro rf9_eq kmixed rfl ?_
  ((conv => whnf) <;> (repeat (first | (refine And.intro (by first | omega | exact rfl) ?_; conv => whnf) | ((with_reducible refine bk_true ?_); conv => whnf) | ((with_reducible refine bk_false ?_); conv => whnf) | ((with_reducible refine bk_nt ?_); conv => whnf) | ((with_reducible refine bk_nf ?_); conv => whnf))))
  refine vcall_pf alive_fn rfl rfl ?_
  ((conv => whnf) <;> (repeat (first | (refine And.intro (by first | omega | exact rfl) ?_; conv => whnf) | ((with_reducible refine bk_true ?_); conv => whnf) | ((with_reducible refine bk_false ?_); conv => whnf) | ((with_reducible refine bk_nt ?_); conv => whnf) | ((with_reducible refine bk_nf ?_); conv => whnf))))
  have hl : (ps.map fun p => [PV.str p]).length = ps.length := by simp
  rw [hl]
  (refine bk_split (fun hb => ?_) (fun hb => ?_))
  · ((conv => whnf) <;> (repeat (first | (refine And.intro (by first | omega | exact rfl) ?_; conv => whnf) | ((with_reducible refine bk_true ?_); conv => whnf) | ((with_reducible refine bk_false ?_); conv => whnf) | ((with_reducible refine bk_nt ?_); conv => whnf) | ((with_reducible refine bk_nf ?_); conv => whnf))))
    refine ret_pf rfl rfl rfl
  have h60 := gtr_f hb
  ((conv => whnf) <;> (repeat (first | (refine And.intro (by first | omega | exact rfl) ?_; conv => whnf) | ((with_reducible refine bk_true ?_); conv => whnf) | ((with_reducible refine bk_false ?_); conv => whnf) | ((with_reducible refine bk_nt ?_); conv => whnf) | ((with_reducible refine bk_nf ?_); conv => whnf))))
  (refine bk_split (fun hb => ?_) (fun hb => ?_))
  · ((conv => whnf) <;> (repeat (first | (refine And.intro (by first | omega | exact rfl) ?_; conv => whnf) | ((with_reducible refine bk_true ?_); conv => whnf) | ((with_reducible refine bk_false ?_); conv => whnf) | ((with_reducible refine bk_nt ?_); conv => whnf) | ((with_reducible refine bk_nf ?_); conv => whnf))))
    refine ret_pf rfl rfl rfl
  have h300 := gtr_f hb
  have hdl : d.length < 2 ^ 61 := by omega
  ((conv => whnf) <;> (repeat (first | (refine And.intro (by first | omega | exact rfl) ?_; conv => whnf) | ((with_reducible refine bk_true ?_); conv => whnf) | ((with_reducible refine bk_false ?_); conv => whnf) | ((with_reducible refine bk_nt ?_); conv => whnf) | ((with_reducible refine bk_nf ?_); conv => whnf))))
  rcases Nat.eq_zero_or_pos d.length with h0 | h1
  · obtain rfl : d = [] := List.eq_nil_of_length_eq_zero h0
    refine vcall_new New_nil rfl rfl ?_
    rintro r H' ⟨rfl, rfl⟩
    ((conv => whnf) <;> (repeat (first | (refine And.intro (by first | omega | exact rfl) ?_; conv => whnf) | ((with_reducible refine bk_true ?_); conv => whnf) | ((with_reducible refine bk_false ?_); conv => whnf) | ((with_reducible refine bk_nt ?_); conv => whnf) | ((with_reducible refine bk_nf ?_); conv => whnf))))
    refine vcall_pf (refRight_fn [] (by decide)) rfl rfl ?_
    rw [decide_eq_false (by decide)]
    ((conv => whnf) <;> (repeat (first | (refine And.intro (by first | omega | exact rfl) ?_; conv => whnf) | ((with_reducible refine bk_true ?_); conv => whnf) | ((with_reducible refine bk_false ?_); conv => whnf) | ((with_reducible refine bk_nt ?_); conv => whnf) | ((with_reducible refine bk_nf ?_); conv => whnf))))
    refine bk_true ?_
    ((conv => whnf) <;> (repeat (first | (refine And.intro (by first | omega | exact rfl) ?_; conv => whnf) | ((with_reducible refine bk_true ?_); conv => whnf) | ((with_reducible refine bk_false ?_); conv => whnf) | ((with_reducible refine bk_nt ?_); conv => whnf) | ((with_reducible refine bk_nf ?_); conv => whnf))))
    refine bk_true ?_
    ((conv => whnf) <;> (repeat (first | (refine And.intro (by first | omega | exact rfl) ?_; conv => whnf) | ((with_reducible refine bk_true ?_); conv => whnf) | ((with_reducible refine bk_false ?_); conv => whnf) | ((with_reducible refine bk_nt ?_); conv => whnf) | ((with_reducible refine bk_nf ?_); conv => whnf))))
    refine bk_true ?_
    ((conv => whnf) <;> (repeat (first | (refine And.intro (by first | omega | exact rfl) ?_; conv => whnf) | ((with_reducible refine bk_true ?_); conv => whnf) | ((with_reducible refine bk_false ?_); conv => whnf) | ((with_reducible refine bk_nt ?_); conv => whnf) | ((with_reducible refine bk_nf ?_); conv => whnf))))
    all_goals refine ret_pf rfl rfl rfl
  rcases Nat.lt_or_ge 64 d.length with h64 | h2
  · refine vcall_new (New_long d h64) rfl rfl ?_
    rintro r H' ⟨rfl, rfl⟩
    ((conv => whnf) <;> (repeat (first | (refine And.intro (by first | omega | exact rfl) ?_; conv => whnf) | ((with_reducible refine bk_true ?_); conv => whnf) | ((with_reducible refine bk_false ?_); conv => whnf) | ((with_reducible refine bk_nt ?_); conv => whnf) | ((with_reducible refine bk_nf ?_); conv => whnf))))
    refine vcall_pf (refRight_fn d (by omega)) rfl rfl ?_
    rw [decide_eq_false (by omega)]
    ((conv => whnf) <;> (repeat (first | (refine And.intro (by first | omega | exact rfl) ?_; conv => whnf) | ((with_reducible refine bk_true ?_); conv => whnf) | ((with_reducible refine bk_false ?_); conv => whnf) | ((with_reducible refine bk_nt ?_); conv => whnf) | ((with_reducible refine bk_nf ?_); conv => whnf))))
    refine bk_true ?_
    ((conv => whnf) <;> (repeat (first | (refine And.intro (by first | omega | exact rfl) ?_; conv => whnf) | ((with_reducible refine bk_true ?_); conv => whnf) | ((with_reducible refine bk_false ?_); conv => whnf) | ((with_reducible refine bk_nt ?_); conv => whnf) | ((with_reducible refine bk_nf ?_); conv => whnf))))
    (refine bk_split (fun hb => ?_) (fun hb => ?_))
    · exact absurd (eql_t hb) (by omega)
    ((conv => whnf) <;> (repeat (first | (refine And.intro (by first | omega | exact rfl) ?_; conv => whnf) | ((with_reducible refine bk_true ?_); conv => whnf) | ((with_reducible refine bk_false ?_); conv => whnf) | ((with_reducible refine bk_nt ?_); conv => whnf) | ((with_reducible refine bk_nf ?_); conv => whnf))))
    (refine bk_split (fun hb => ?_) (fun hb => ?_))
    · ((conv => whnf) <;> (repeat (first | (refine And.intro (by first | omega | exact rfl) ?_; conv => whnf) | ((with_reducible refine bk_true ?_); conv => whnf) | ((with_reducible refine bk_false ?_); conv => whnf) | ((with_reducible refine bk_nt ?_); conv => whnf) | ((with_reducible refine bk_nf ?_); conv => whnf))))
      refine ret_pf rfl rfl rfl
    · exact absurd (gtr_f hb) (by omega)
  refine vcall_new (New_yes d h1 h2) rfl rfl ?_
  rintro r H' ⟨rfl, rfl⟩
  ((conv => whnf) <;> (repeat (first | (refine And.intro (by first | omega | exact rfl) ?_; conv => whnf) | ((with_reducible refine bk_true ?_); conv => whnf) | ((with_reducible refine bk_false ?_); conv => whnf) | ((with_reducible refine bk_nt ?_); conv => whnf) | ((with_reducible refine bk_nf ?_); conv => whnf))))
  refine vcall_pf (refRight_fn d (by omega)) rfl rfl ?_
  rw [decide_eq_true ⟨h1, h2⟩]
  ((conv => whnf) <;> (repeat (first | (refine And.intro (by first | omega | exact rfl) ?_; conv => whnf) | ((with_reducible refine bk_true ?_); conv => whnf) | ((with_reducible refine bk_false ?_); conv => whnf) | ((with_reducible refine bk_nt ?_); conv => whnf) | ((with_reducible refine bk_nf ?_); conv => whnf))))
  refine bk_false ?_
  ((conv => whnf) <;> (repeat (first | (refine And.intro (by first | omega | exact rfl) ?_; conv => whnf) | ((with_reducible refine bk_true ?_); conv => whnf) | ((with_reducible refine bk_false ?_); conv => whnf) | ((with_reducible refine bk_nt ?_); conv => whnf) | ((with_reducible refine bk_nf ?_); conv => whnf))))
  refine bk_false ?_
  ((conv => whnf) <;> (repeat (first | (refine And.intro (by first | omega | exact rfl) ?_; conv => whnf) | ((with_reducible refine bk_true ?_); conv => whnf) | ((with_reducible refine bk_false ?_); conv => whnf) | ((with_reducible refine bk_nt ?_); conv => whnf) | ((with_reducible refine bk_nf ?_); conv => whnf))))
  refine ⟨[], FS, FS.st w cap ps d, FS.ok ps d, FS.mu ps, ⟨.opn 0 [] 0 0, ⟨Nat.zero_le _, Nat.zero_le _, hold_nil d, h1, Nat.le_refl _, fun k hk h => ?_⟩, ?_⟩, fun x hx => ?_⟩
  · have h' : d.length ≤ (List.take k ([] : List UInt8)).length := h.2.1
    rw [List.take_nil, List.length_nil] at h'
    omega
  · (refine ⟨⟨rfl, rfl⟩, ?_, ?_⟩ <;> (repeat' (first | exact TLe.nil | exact HLe.nil _ | refine TLe.cons ?_ ?_ | refine HLe.cons ?_ ?_ | exact KLe.ptr rfl | exact KLe.sl rfl (.inl rfl) | exact KLe.csl rfl | refine KLe.pe ?_ | refine BLe.pe ?_ | refine BLe.mx ?_ | exact KLeL.nil | refine KLe.fn ?_ ?_ | refine KLeL.cons ?_ ?_ | exact KLe.und _ | exact BLe.dead _)) <;> (try with_reducible rfl))
    all_goals rfl
  cases x with
  | opn i T h s =>
    obtain ⟨hi, hT, hH, hlt0, hs, hno⟩ := hx
    ((conv => whnf) <;> (repeat (first | (refine And.intro (by first | omega | exact rfl) ?_; conv => whnf) | ((with_reducible refine bk_true ?_); conv => whnf) | ((with_reducible refine bk_false ?_); conv => whnf) | ((with_reducible refine bk_nt ?_); conv => whnf) | ((with_reducible refine bk_nf ?_); conv => whnf))))
    rw [hl]
    (refine bk_split (fun hb => ?_) (fun hb => ?_))
    · have hlt : i < ps.length := by have := lss_t hb; omega
      obtain ⟨p, hp⟩ : ∃ p, ps[i]? = some p := ⟨_, List.getElem?_eq_getElem hlt⟩
      obtain rfl : w = 1 := by rcases hw with rfl | h; · cases hp
                               · exact h
      have hrow : (ps.map fun p => [PV.str p])[i]? = some [.str p] := by rw [List.getElem?_map, hp]; rfl
      ((conv => whnf) <;> (repeat (first | (refine And.intro (by first | omega | exact rfl) ?_; conv => whnf) | ((with_reducible refine bk_true ?_); conv => whnf) | ((with_reducible refine bk_false ?_); conv => whnf) | ((with_reducible refine bk_nt ?_); conv => whnf) | ((with_reducible refine bk_nf ?_); conv => whnf))))
      refine ⟨[.str p], by rw [Int.toNat_natCast]; exact hrow, ?_⟩
      ((conv => whnf) <;> (repeat (first | (refine And.intro (by first | omega | exact rfl) ?_; conv => whnf) | ((with_reducible refine bk_true ?_); conv => whnf) | ((with_reducible refine bk_false ?_); conv => whnf) | ((with_reducible refine bk_nt ?_); conv => whnf) | ((with_reducible refine bk_nf ?_); conv => whnf))))
      refine ⟨_, rfl, ?_⟩
      ((conv => whnf) <;> (repeat (first | (refine And.intro (by first | omega | exact rfl) ?_; conv => whnf) | ((with_reducible refine bk_true ?_); conv => whnf) | ((with_reducible refine bk_false ?_); conv => whnf) | ((with_reducible refine bk_nt ?_); conv => whnf) | ((with_reducible refine bk_nf ?_); conv => whnf))))
      (refine bk_split (fun hb => ?_) (fun hb => ?_))
      · ((conv => whnf) <;> (repeat (first | (refine And.intro (by first | omega | exact rfl) ?_; conv => whnf) | ((with_reducible refine bk_true ?_); conv => whnf) | ((with_reducible refine bk_false ?_); conv => whnf) | ((with_reducible refine bk_nt ?_); conv => whnf) | ((with_reducible refine bk_nf ?_); conv => whnf))))
        refine ret_pf rfl rfl rfl
      have h100 := gtr_f hb
      ((conv => whnf) <;> (repeat (first | (refine And.intro (by first | omega | exact rfl) ?_; conv => whnf) | ((with_reducible refine bk_true ?_); conv => whnf) | ((with_reducible refine bk_false ?_); conv => whnf) | ((with_reducible refine bk_nt ?_); conv => whnf) | ((with_reducible refine bk_nf ?_); conv => whnf))))
      refine ⟨[.str p], by rw [Int.toNat_natCast]; exact hrow, ?_⟩
      ((conv => whnf) <;> (repeat (first | (refine And.intro (by first | omega | exact rfl) ?_; conv => whnf) | ((with_reducible refine bk_true ?_); conv => whnf) | ((with_reducible refine bk_false ?_); conv => whnf) | ((with_reducible refine bk_nt ?_); conv => whnf) | ((with_reducible refine bk_nf ?_); conv => whnf))))
      refine ⟨_, rfl, ?_⟩
      ((conv => whnf) <;> (repeat (first | (refine And.intro (by first | omega | exact rfl) ?_; conv => whnf) | ((with_reducible refine bk_true ?_); conv => whnf) | ((with_reducible refine bk_false ?_); conv => whnf) | ((with_reducible refine bk_nt ?_); conv => whnf) | ((with_reducible refine bk_nf ?_); conv => whnf))))
      refine vcall_own [0] (feed_fn d T p h s hH hlt0 h2 hs (by omega)) rfl rfl (.cons (.ptr rfl) (.cons (.pe rfl) .nil)) ?_
      rintro r H' (⟨n, s', g1, g2, g3, g4, rfl, rfl⟩ | ⟨h', s', g1, g2, g3, g4, rfl, rfl⟩)
      · ((conv => whnf) <;> (repeat (first | (refine And.intro (by first | omega | exact rfl) ?_; conv => whnf) | ((with_reducible refine bk_true ?_); conv => whnf) | ((with_reducible refine bk_false ?_); conv => whnf) | ((with_reducible refine bk_nt ?_); conv => whnf) | ((with_reducible refine bk_nf ?_); conv => whnf))))
        refine ⟨[.str p], by rw [Int.toNat_natCast]; exact hrow, ?_⟩
        ((conv => whnf) <;> (repeat (first | (refine And.intro (by first | omega | exact rfl) ?_; conv => whnf) | ((with_reducible refine bk_true ?_); conv => whnf) | ((with_reducible refine bk_false ?_); conv => whnf) | ((with_reducible refine bk_nt ?_); conv => whnf) | ((with_reducible refine bk_nf ?_); conv => whnf))))
        refine ⟨_, rfl, ?_⟩
        ((conv => whnf) <;> (repeat (first | (refine And.intro (by first | omega | exact rfl) ?_; conv => whnf) | ((with_reducible refine bk_true ?_); conv => whnf) | ((with_reducible refine bk_false ?_); conv => whnf) | ((with_reducible refine bk_nt ?_); conv => whnf) | ((with_reducible refine bk_nf ?_); conv => whnf))))
        have hTp : (T ++ p).length = T.length + p.length := by simp
        refine vcall_new (refFind_fn (T ++ p) d h1 (by omega) hdl) rfl rfl ?_
        rintro r H' ⟨a, is, hf, rfl, rfl⟩
        obtain ⟨rfl, e⟩ := found h1 (show T.length + n + 1 ≤ (T ++ p).length by omega) g2 (fun k hk => by
          rcases Nat.lt_or_ge T.length k with h | h
          · exact g3 k h hk
          · rw [List.take_append_of_le_length h]; exact hno k h) hf
        ((conv => whnf) <;> (repeat (first | (refine And.intro (by first | omega | exact rfl) ?_; conv => whnf) | ((with_reducible refine bk_true ?_); conv => whnf) | ((with_reducible refine bk_false ?_); conv => whnf) | ((with_reducible refine bk_nt ?_); conv => whnf) | ((with_reducible refine bk_nf ?_); conv => whnf))))
        refine bk_is (neqF (by rw [add64 (by omega) (by omega), sub64 (by omega) (by omega)]; omega)) ?_
        ((conv => whnf) <;> (repeat (first | (refine And.intro (by first | omega | exact rfl) ?_; conv => whnf) | ((with_reducible refine bk_true ?_); conv => whnf) | ((with_reducible refine bk_false ?_); conv => whnf) | ((with_reducible refine bk_nt ?_); conv => whnf) | ((with_reducible refine bk_nf ?_); conv => whnf))))
        refine vcall_rd [0] (held_fn _ _ _ _ _) rfl rfl (.cons (.ptr rfl) .nil) ?_
        ((conv => whnf) <;> (repeat (first | (refine And.intro (by first | omega | exact rfl) ?_; conv => whnf) | ((with_reducible refine bk_true ?_); conv => whnf) | ((with_reducible refine bk_false ?_); conv => whnf) | ((with_reducible refine bk_nt ?_); conv => whnf) | ((with_reducible refine bk_nf ?_); conv => whnf))))
        refine bk_is (neqF rfl) ?_
        ((conv => whnf) <;> (repeat (first | (refine And.intro (by first | omega | exact rfl) ?_; conv => whnf) | ((with_reducible refine bk_true ?_); conv => whnf) | ((with_reducible refine bk_false ?_); conv => whnf) | ((with_reducible refine bk_nt ?_); conv => whnf) | ((with_reducible refine bk_nf ?_); conv => whnf))))
        refine vcall_rd [0] (fed_fn _ _ _ _ _) rfl rfl (.cons (.ptr rfl) .nil) ?_
        ((conv => whnf) <;> (repeat (first | (refine And.intro (by first | omega | exact rfl) ?_; conv => whnf) | ((with_reducible refine bk_true ?_); conv => whnf) | ((with_reducible refine bk_false ?_); conv => whnf) | ((with_reducible refine bk_nt ?_); conv => whnf) | ((with_reducible refine bk_nf ?_); conv => whnf))))
        refine bk_is (neqF (by rw [add64 (by omega) (by omega)]; omega)) ?_
        ((conv => whnf) <;> (repeat (first | (refine And.intro (by first | omega | exact rfl) ?_; conv => whnf) | ((with_reducible refine bk_true ?_); conv => whnf) | ((with_reducible refine bk_false ?_); conv => whnf) | ((with_reducible refine bk_nt ?_); conv => whnf) | ((with_reducible refine bk_nf ?_); conv => whnf))))
        refine ⟨.dn (i + 1) T (T.length + n + 1) s', ⟨hlt, g4, by omega⟩, (show ps.length - (i + 1) < ps.length - i by omega), ?_⟩
        (refine ⟨⟨rfl, rfl⟩, ?_, ?_⟩ <;> (repeat' (first | exact TLe.nil | exact HLe.nil _ | refine TLe.cons ?_ ?_ | refine HLe.cons ?_ ?_ | exact KLe.ptr rfl | exact KLe.sl rfl (.inl rfl) | exact KLe.csl rfl | refine KLe.pe ?_ | refine BLe.pe ?_ | refine BLe.mx ?_ | exact KLeL.nil | refine KLe.fn ?_ ?_ | refine KLeL.cons ?_ ?_ | exact KLe.und _ | exact BLe.dead _)) <;> (try with_reducible rfl))
        all_goals first | ((refine congrArg (PV.int IntKind.i64) ?_) <;> (first | rfl | omega | (rw [add64 (by omega) (by omega)]; omega) | (rw [sub64 (by omega) (by omega)]; omega))) | skip
      · ((conv => whnf) <;> (repeat (first | (refine And.intro (by first | omega | exact rfl) ?_; conv => whnf) | ((with_reducible refine bk_true ?_); conv => whnf) | ((with_reducible refine bk_false ?_); conv => whnf) | ((with_reducible refine bk_nt ?_); conv => whnf) | ((with_reducible refine bk_nf ?_); conv => whnf))))
        refine ⟨[.str p], by rw [Int.toNat_natCast]; exact hrow, ?_⟩
        ((conv => whnf) <;> (repeat (first | (refine And.intro (by first | omega | exact rfl) ?_; conv => whnf) | ((with_reducible refine bk_true ?_); conv => whnf) | ((with_reducible refine bk_false ?_); conv => whnf) | ((with_reducible refine bk_nt ?_); conv => whnf) | ((with_reducible refine bk_nf ?_); conv => whnf))))
        refine ⟨_, rfl, ?_⟩
        ((conv => whnf) <;> (repeat (first | (refine And.intro (by first | omega | exact rfl) ?_; conv => whnf) | ((with_reducible refine bk_true ?_); conv => whnf) | ((with_reducible refine bk_false ?_); conv => whnf) | ((with_reducible refine bk_nt ?_); conv => whnf) | ((with_reducible refine bk_nf ?_); conv => whnf))))
        have hTp : (T ++ p).length = T.length + p.length := by simp
        refine vcall_new (refFind_fn (T ++ p) d h1 (by omega) hdl) rfl rfl ?_
        rintro r H' ⟨a, is, hf, rfl, rfl⟩
        have hno' : ∀ k, k ≤ (T ++ p).length → ¬ IsB d ((T ++ p).take k) d.length := fun k hk => by
          rcases Nat.lt_or_ge T.length k with h | h
          · exact g4 k h (by omega)
          · rw [List.take_append_of_le_length h]; exact hno k h
        obtain ⟨rfl, e, hle⟩ := unfound g1 g2 hno' hf
        ((conv => whnf) <;> (repeat (first | (refine And.intro (by first | omega | exact rfl) ?_; conv => whnf) | ((with_reducible refine bk_true ?_); conv => whnf) | ((with_reducible refine bk_false ?_); conv => whnf) | ((with_reducible refine bk_nt ?_); conv => whnf) | ((with_reducible refine bk_nf ?_); conv => whnf))))
        refine ⟨[.str p], by rw [Int.toNat_natCast]; exact hrow, ?_⟩
        ((conv => whnf) <;> (repeat (first | (refine And.intro (by first | omega | exact rfl) ?_; conv => whnf) | ((with_reducible refine bk_true ?_); conv => whnf) | ((with_reducible refine bk_false ?_); conv => whnf) | ((with_reducible refine bk_nt ?_); conv => whnf) | ((with_reducible refine bk_nf ?_); conv => whnf))))
        refine ⟨_, rfl, ?_⟩
        ((conv => whnf) <;> (repeat (first | (refine And.intro (by first | omega | exact rfl) ?_; conv => whnf) | ((with_reducible refine bk_true ?_); conv => whnf) | ((with_reducible refine bk_false ?_); conv => whnf) | ((with_reducible refine bk_nt ?_); conv => whnf) | ((with_reducible refine bk_nf ?_); conv => whnf))))
        refine ⟨[.str p], by rw [Int.toNat_natCast]; exact hrow, ?_⟩
        ((conv => whnf) <;> (repeat (first | (refine And.intro (by first | omega | exact rfl) ?_; conv => whnf) | ((with_reducible refine bk_true ?_); conv => whnf) | ((with_reducible refine bk_false ?_); conv => whnf) | ((with_reducible refine bk_nt ?_); conv => whnf) | ((with_reducible refine bk_nf ?_); conv => whnf))))
        refine ⟨_, rfl, ?_⟩
        ((conv => whnf) <;> (repeat (first | (refine And.intro (by first | omega | exact rfl) ?_; conv => whnf) | ((with_reducible refine bk_true ?_); conv => whnf) | ((with_reducible refine bk_false ?_); conv => whnf) | ((with_reducible refine bk_nt ?_); conv => whnf) | ((with_reducible refine bk_nf ?_); conv => whnf))))
        refine bk_is (neqF rfl) ?_
        ((conv => whnf) <;> (repeat (first | (refine And.intro (by first | omega | exact rfl) ?_; conv => whnf) | ((with_reducible refine bk_true ?_); conv => whnf) | ((with_reducible refine bk_false ?_); conv => whnf) | ((with_reducible refine bk_nt ?_); conv => whnf) | ((with_reducible refine bk_nf ?_); conv => whnf))))
        refine vcall_rd [0] (held_fn _ _ _ _ _) rfl rfl (.cons (.ptr rfl) .nil) ?_
        ((conv => whnf) <;> (repeat (first | (refine And.intro (by first | omega | exact rfl) ?_; conv => whnf) | ((with_reducible refine bk_true ?_); conv => whnf) | ((with_reducible refine bk_false ?_); conv => whnf) | ((with_reducible refine bk_nt ?_); conv => whnf) | ((with_reducible refine bk_nf ?_); conv => whnf))))
        refine bk_is (neqF (by rw [sub64 (by omega) (by omega)]; omega)) ?_
        ((conv => whnf) <;> (repeat (first | (refine And.intro (by first | omega | exact rfl) ?_; conv => whnf) | ((with_reducible refine bk_true ?_); conv => whnf) | ((with_reducible refine bk_false ?_); conv => whnf) | ((with_reducible refine bk_nt ?_); conv => whnf) | ((with_reducible refine bk_nf ?_); conv => whnf))))
        refine vcall_rd [0] (fed_fn _ _ _ _ _) rfl rfl (.cons (.ptr rfl) .nil) ?_
        ((conv => whnf) <;> (repeat (first | (refine And.intro (by first | omega | exact rfl) ?_; conv => whnf) | ((with_reducible refine bk_true ?_); conv => whnf) | ((with_reducible refine bk_false ?_); conv => whnf) | ((with_reducible refine bk_nt ?_); conv => whnf) | ((with_reducible refine bk_nf ?_); conv => whnf))))
        refine bk_is (neqF (by omega)) ?_
        ((conv => whnf) <;> (repeat (first | (refine And.intro (by first | omega | exact rfl) ?_; conv => whnf) | ((with_reducible refine bk_true ?_); conv => whnf) | ((with_reducible refine bk_false ?_); conv => whnf) | ((with_reducible refine bk_nt ?_); conv => whnf) | ((with_reducible refine bk_nf ?_); conv => whnf))))
        refine vcall_rd [0] (steps_fn _ _ _ _ _) rfl rfl (.cons (.ptr rfl) .nil) ?_
        ((conv => whnf) <;> (repeat (first | (refine And.intro (by first | omega | exact rfl) ?_; conv => whnf) | ((with_reducible refine bk_true ?_); conv => whnf) | ((with_reducible refine bk_false ?_); conv => whnf) | ((with_reducible refine bk_nt ?_); conv => whnf) | ((with_reducible refine bk_nf ?_); conv => whnf))))
        refine vcall_rd [0] (fed_fn _ _ _ _ _) rfl rfl (.cons (.ptr rfl) .nil) ?_
        ((conv => whnf) <;> (repeat (first | (refine And.intro (by first | omega | exact rfl) ?_; conv => whnf) | ((with_reducible refine bk_true ?_); conv => whnf) | ((with_reducible refine bk_false ?_); conv => whnf) | ((with_reducible refine bk_nt ?_); conv => whnf) | ((with_reducible refine bk_nf ?_); conv => whnf))))
        refine bk_is (gtrF (by rw [mul64 (by omega) (by omega)]; omega)) ?_
        ((conv => whnf) <;> (repeat (first | (refine And.intro (by first | omega | exact rfl) ?_; conv => whnf) | ((with_reducible refine bk_true ?_); conv => whnf) | ((with_reducible refine bk_false ?_); conv => whnf) | ((with_reducible refine bk_nt ?_); conv => whnf) | ((with_reducible refine bk_nf ?_); conv => whnf))))
        refine ⟨.opn (i + 1) (T ++ p) h' s', ⟨hlt, by omega, g1, g2, by omega, hno'⟩, (show ps.length - (i + 1) < ps.length - i by omega), ?_⟩
        (refine ⟨⟨rfl, rfl⟩, ?_, ?_⟩ <;> (repeat' (first | exact TLe.nil | exact HLe.nil _ | refine TLe.cons ?_ ?_ | refine HLe.cons ?_ ?_ | exact KLe.ptr rfl | exact KLe.sl rfl (.inl rfl) | exact KLe.csl rfl | refine KLe.pe ?_ | refine BLe.pe ?_ | refine BLe.mx ?_ | exact KLeL.nil | refine KLe.fn ?_ ?_ | refine KLeL.cons ?_ ?_ | exact KLe.und _ | exact BLe.dead _)) <;> (try with_reducible rfl))
        all_goals first | ((refine congrArg (PV.int IntKind.i64) ?_) <;> (first | rfl | omega | (rw [add64 (by omega) (by omega)]; omega) | (rw [sub64 (by omega) (by omega)]; omega))) | skip
    · ((conv => whnf) <;> (repeat (first | (refine And.intro (by first | omega | exact rfl) ?_; conv => whnf) | ((with_reducible refine bk_true ?_); conv => whnf) | ((with_reducible refine bk_false ?_); conv => whnf) | ((with_reducible refine bk_nt ?_); conv => whnf) | ((with_reducible refine bk_nf ?_); conv => whnf))))
      refine vcall_rd [0] (steps_fn _ _ _ _ _) rfl rfl (.cons (.ptr rfl) .nil) ?_
      ((conv => whnf) <;> (repeat (first | (refine And.intro (by first | omega | exact rfl) ?_; conv => whnf) | ((with_reducible refine bk_true ?_); conv => whnf) | ((with_reducible refine bk_false ?_); conv => whnf) | ((with_reducible refine bk_nt ?_); conv => whnf) | ((with_reducible refine bk_nf ?_); conv => whnf))))
      refine vcall_rd [0] (fed_fn _ _ _ _ _) rfl rfl (.cons (.ptr rfl) .nil) ?_
      ((conv => whnf) <;> (repeat (first | (refine And.intro (by first | omega | exact rfl) ?_; conv => whnf) | ((with_reducible refine bk_true ?_); conv => whnf) | ((with_reducible refine bk_false ?_); conv => whnf) | ((with_reducible refine bk_nt ?_); conv => whnf) | ((with_reducible refine bk_nf ?_); conv => whnf))))
      refine ret_pf rfl rfl (congrArg PV.b (leqT (by rw [mul64 (by omega) (by omega)]; omega)))
  | dn i T f s =>
    obtain ⟨hi, hs, hf⟩ := hx
    ((conv => whnf) <;> (repeat (first | (refine And.intro (by first | omega | exact rfl) ?_; conv => whnf) | ((with_reducible refine bk_true ?_); conv => whnf) | ((with_reducible refine bk_false ?_); conv => whnf) | ((with_reducible refine bk_nt ?_); conv => whnf) | ((with_reducible refine bk_nf ?_); conv => whnf))))
    rw [hl]
    (refine bk_split (fun hb => ?_) (fun hb => ?_))
    · have hlt : i < ps.length := by have := lss_t hb; omega
      obtain ⟨p, hp⟩ : ∃ p, ps[i]? = some p := ⟨_, List.getElem?_eq_getElem hlt⟩
      obtain rfl : w = 1 := by rcases hw with rfl | h; · cases hp
                               · exact h
      have hrow : (ps.map fun p => [PV.str p])[i]? = some [.str p] := by rw [List.getElem?_map, hp]; rfl
      ((conv => whnf) <;> (repeat (first | (refine And.intro (by first | omega | exact rfl) ?_; conv => whnf) | ((with_reducible refine bk_true ?_); conv => whnf) | ((with_reducible refine bk_false ?_); conv => whnf) | ((with_reducible refine bk_nt ?_); conv => whnf) | ((with_reducible refine bk_nf ?_); conv => whnf))))
      refine ⟨[.str p], by rw [Int.toNat_natCast]; exact hrow, ?_⟩
      ((conv => whnf) <;> (repeat (first | (refine And.intro (by first | omega | exact rfl) ?_; conv => whnf) | ((with_reducible refine bk_true ?_); conv => whnf) | ((with_reducible refine bk_false ?_); conv => whnf) | ((with_reducible refine bk_nt ?_); conv => whnf) | ((with_reducible refine bk_nf ?_); conv => whnf))))
      refine ⟨_, rfl, ?_⟩
      ((conv => whnf) <;> (repeat (first | (refine And.intro (by first | omega | exact rfl) ?_; conv => whnf) | ((with_reducible refine bk_true ?_); conv => whnf) | ((with_reducible refine bk_false ?_); conv => whnf) | ((with_reducible refine bk_nt ?_); conv => whnf) | ((with_reducible refine bk_nf ?_); conv => whnf))))
      (refine bk_split (fun hb => ?_) (fun hb => ?_))
      · ((conv => whnf) <;> (repeat (first | (refine And.intro (by first | omega | exact rfl) ?_; conv => whnf) | ((with_reducible refine bk_true ?_); conv => whnf) | ((with_reducible refine bk_false ?_); conv => whnf) | ((with_reducible refine bk_nt ?_); conv => whnf) | ((with_reducible refine bk_nf ?_); conv => whnf))))
        refine ret_pf rfl rfl rfl
      have h100 := gtr_f hb
      ((conv => whnf) <;> (repeat (first | (refine And.intro (by first | omega | exact rfl) ?_; conv => whnf) | ((with_reducible refine bk_true ?_); conv => whnf) | ((with_reducible refine bk_false ?_); conv => whnf) | ((with_reducible refine bk_nt ?_); conv => whnf) | ((with_reducible refine bk_nf ?_); conv => whnf))))
      refine ⟨[.str p], by rw [Int.toNat_natCast]; exact hrow, ?_⟩
      ((conv => whnf) <;> (repeat (first | (refine And.intro (by first | omega | exact rfl) ?_; conv => whnf) | ((with_reducible refine bk_true ?_); conv => whnf) | ((with_reducible refine bk_false ?_); conv => whnf) | ((with_reducible refine bk_nt ?_); conv => whnf) | ((with_reducible refine bk_nf ?_); conv => whnf))))
      refine ⟨_, rfl, ?_⟩
      ((conv => whnf) <;> (repeat (first | (refine And.intro (by first | omega | exact rfl) ?_; conv => whnf) | ((with_reducible refine bk_true ?_); conv => whnf) | ((with_reducible refine bk_false ?_); conv => whnf) | ((with_reducible refine bk_nt ?_); conv => whnf) | ((with_reducible refine bk_nf ?_); conv => whnf))))
      refine vcall_own [0] (feed_done d p 0 f s) rfl rfl (.cons (.ptr rfl) (.cons (.pe rfl) .nil)) ?_
      rintro r H' ⟨rfl, rfl⟩
      ((conv => whnf) <;> (repeat (first | (refine And.intro (by first | omega | exact rfl) ?_; conv => whnf) | ((with_reducible refine bk_true ?_); conv => whnf) | ((with_reducible refine bk_false ?_); conv => whnf) | ((with_reducible refine bk_nt ?_); conv => whnf) | ((with_reducible refine bk_nf ?_); conv => whnf))))
      refine bk_is (neqF rfl) ?_
      ((conv => whnf) <;> (repeat (first | (refine And.intro (by first | omega | exact rfl) ?_; conv => whnf) | ((with_reducible refine bk_true ?_); conv => whnf) | ((with_reducible refine bk_false ?_); conv => whnf) | ((with_reducible refine bk_nt ?_); conv => whnf) | ((with_reducible refine bk_nf ?_); conv => whnf))))
      refine ⟨.dn (i + 1) T f s, ⟨hlt, hs, hf⟩, (show ps.length - (i + 1) < ps.length - i by omega), ?_⟩
      (refine ⟨⟨rfl, rfl⟩, ?_, ?_⟩ <;> (repeat' (first | exact TLe.nil | exact HLe.nil _ | refine TLe.cons ?_ ?_ | refine HLe.cons ?_ ?_ | exact KLe.ptr rfl | exact KLe.sl rfl (.inl rfl) | exact KLe.csl rfl | refine KLe.pe ?_ | refine BLe.pe ?_ | refine BLe.mx ?_ | exact KLeL.nil | refine KLe.fn ?_ ?_ | refine KLeL.cons ?_ ?_ | exact KLe.und _ | exact BLe.dead _)) <;> (try with_reducible rfl))
      all_goals first | ((refine congrArg (PV.int IntKind.i64) ?_) <;> (first | rfl | omega | (rw [add64 (by omega) (by omega)]; omega) | (rw [sub64 (by omega) (by omega)]; omega))) | skip
    · ((conv => whnf) <;> (repeat (first | (refine And.intro (by first | omega | exact rfl) ?_; conv => whnf) | ((with_reducible refine bk_true ?_); conv => whnf) | ((with_reducible refine bk_false ?_); conv => whnf) | ((with_reducible refine bk_nt ?_); conv => whnf) | ((with_reducible refine bk_nf ?_); conv => whnf))))
      refine vcall_rd [0] (steps_fn _ _ _ _ _) rfl rfl (.cons (.ptr rfl) .nil) ?_
      ((conv => whnf) <;> (repeat (first | (refine And.intro (by first | omega | exact rfl) ?_; conv => whnf) | ((with_reducible refine bk_true ?_); conv => whnf) | ((with_reducible refine bk_false ?_); conv => whnf) | ((with_reducible refine bk_nt ?_); conv => whnf) | ((with_reducible refine bk_nf ?_); conv => whnf))))
      refine vcall_rd [0] (fed_fn _ _ _ _ _) rfl rfl (.cons (.ptr rfl) .nil) ?_
      ((conv => whnf) <;> (repeat (first | (refine And.intro (by first | omega | exact rfl) ?_; conv => whnf) | ((with_reducible refine bk_true ?_); conv => whnf) | ((with_reducible refine bk_false ?_); conv => whnf) | ((with_reducible refine bk_nt ?_); conv => whnf) | ((with_reducible refine bk_nf ?_); conv => whnf))))
      refine ret_pf rfl rfl (congrArg PV.b (leqT (by rw [mul64 (by omega) (by omega)]; omega)))

end Hk
