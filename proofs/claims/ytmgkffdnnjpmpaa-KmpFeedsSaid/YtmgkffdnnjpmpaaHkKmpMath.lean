/- The plain law of the seeker: borders. -/
import Derived.Test.YtmgkffdnnjpmpaaHkDrv
namespace Hk
set_option linter.unusedVariables false

/-- The first k bytes of d end T. -/
def IsB (d T : List UInt8) (k : Nat) : Prop := k ≤ d.length ∧ k ≤ T.length ∧ d.take k = T.drop (T.length - k)

instance (d T : List UInt8) (k : Nat) : Decidable (IsB d T k) := inferInstanceAs (Decidable (_ ∧ _))

theorem IsB.zero (d T : List UInt8) : IsB d T 0 := ⟨Nat.zero_le _, Nat.zero_le _, by simp⟩

theorem IsB.succ {d T : List UInt8} {c : UInt8} {k : Nat} : IsB d (T ++ [c]) (k + 1) ↔ IsB d T k ∧ d[k]? = some c := by
  constructor
  · rintro ⟨h1, h2, h3⟩
    simp only [List.length_append, List.length_singleton] at h2 h3
    have hk : k < d.length := by omega
    have e1 : d.take (k + 1) = d.take k ++ [d[k]] := by rw [List.take_add_one, List.getElem?_eq_getElem hk]; rfl
    have e2 : (T ++ [c]).drop (T.length + 1 - (k + 1)) = T.drop (T.length - k) ++ [c] := by
      rw [show T.length + 1 - (k + 1) = T.length - k by omega, List.drop_append_of_le_length (by omega)]
    rw [e1, e2] at h3
    obtain ⟨g1, g2⟩ := List.append_inj' h3 rfl
    refine ⟨⟨by omega, by omega, g1⟩, ?_⟩
    rw [List.getElem?_eq_getElem hk]
    simpa using g2
  · rintro ⟨⟨h1, h2, h3⟩, h4⟩
    obtain ⟨hk, hc⟩ := List.getElem?_eq_some_iff.1 h4
    refine ⟨by omega, by simp; omega, ?_⟩
    simp only [List.length_append, List.length_singleton]
    rw [show T.length + 1 - (k + 1) = T.length - k by omega, List.drop_append_of_le_length (by omega), List.take_add_one, h4, h3]
    rfl

theorem IsB.within {d T : List UInt8} {h k : Nat} (hh : IsB d T h) (hk : k ≤ h) : IsB d T k ↔ IsB d (d.take h) k := by
  obtain ⟨h1, h2, h3⟩ := hh
  have hl : (d.take h).length = h := by simp; omega
  have e : (d.take h).drop ((d.take h).length - k) = T.drop (T.length - k) := by
    rw [hl, h3, List.drop_drop]
    congr 1
    omega
  constructor
  · rintro ⟨g1, g2, g3⟩
    exact ⟨g1, by rw [hl]; exact hk, by rw [e]; exact g3⟩
  · rintro ⟨g1, g2, g3⟩
    exact ⟨g1, by omega, by rw [← e]; exact g3⟩

/-- The most bytes of d that end T. -/
def Hold (d T : List UInt8) (h : Nat) : Prop := IsB d T h ∧ ∀ k, IsB d T k → k ≤ h

/-- What may go on with c is at most h. -/
def Cand (d T : List UInt8) (c : UInt8) (h : Nat) : Prop := IsB d T h ∧ h < d.length ∧ ∀ k, IsB d T k → d[k]? = some c → k ≤ h

theorem Hold.cand {d T : List UInt8} {h : Nat} (hh : Hold d T h) (hl : h < d.length) (c : UInt8) : Cand d T c h := ⟨hh.1, hl, fun k hk _ => hh.2 k hk⟩

theorem Cand.yes {d T : List UInt8} {c : UInt8} {h : Nat} (hc : Cand d T c h) (he : d[h]? = some c) : Hold d (T ++ [c]) (h + 1) := by
  refine ⟨IsB.succ.2 ⟨hc.1, he⟩, fun k hk => ?_⟩
  cases k with
  | zero => omega
  | succ k =>
    obtain ⟨g1, g2⟩ := IsB.succ.1 hk
    have := hc.2.2 k g1 g2
    omega

theorem Cand.no {d T : List UInt8} {c : UInt8} (hc : Cand d T c 0) (he : d[0]? ≠ some c) : Hold d (T ++ [c]) 0 := by
  refine ⟨IsB.zero _ _, fun k hk => ?_⟩
  cases k with
  | zero => omega
  | succ k =>
    obtain ⟨g1, g2⟩ := IsB.succ.1 hk
    have := hc.2.2 k g1 g2
    have : k = 0 := by omega
    subst this
    exact absurd g2 he

/-- One that is a proper border of d's first n bytes, and the longest. -/
def Bk (d : List UInt8) (n b : Nat) : Prop := IsB d (d.take n) b ∧ b < n ∧ ∀ k, k < n → IsB d (d.take n) k → k ≤ b

theorem Cand.back {d T : List UInt8} {c : UInt8} {h b : Nat} (hc : Cand d T c h) (he : d[h]? ≠ some c) (hb : Bk d h b) : Cand d T c b := by
  refine ⟨(IsB.within hc.1 (Nat.le_of_lt hb.2.1)).2 hb.1, by have := hb.2.1; have := hc.2.1; omega, fun k hk hkc => ?_⟩
  have hle := hc.2.2 k hk hkc
  have hne : k ≠ h := fun e => he (e ▸ hkc)
  exact hb.2.2 k (by omega) ((IsB.within hc.1 hle).1 hk)

/-- d's own bytes, but for the first: its borders are those of d's first n. -/
theorem IsB.own {d : List UInt8} {n k : Nat} (hn : n ≤ d.length) (h1 : 1 ≤ n) : IsB d ((d.take n).drop 1) k ↔ IsB d (d.take n) k ∧ k < n := by
  have l1 : (d.take n).length = n := by simp; omega
  have l2 : ((d.take n).drop 1).length = n - 1 := by simp; omega
  unfold IsB
  rw [l1, l2, List.drop_drop]
  constructor
  · rintro ⟨a, b, c⟩
    refine ⟨⟨a, by omega, ?_⟩, by omega⟩
    rw [c]; congr 1; omega
  · rintro ⟨⟨a, b, c⟩, e⟩
    refine ⟨a, by omega, ?_⟩
    rw [c]; congr 1; omega

theorem hold_bk {d : List UInt8} {n b : Nat} (hn : n ≤ d.length) (h1 : 1 ≤ n) : Hold d ((d.take n).drop 1) b ↔ Bk d n b := by
  unfold Hold Bk
  constructor
  · rintro ⟨g1, g2⟩
    obtain ⟨g3, g4⟩ := (IsB.own hn h1).1 g1
    exact ⟨g3, g4, fun k hk hb => g2 k ((IsB.own hn h1).2 ⟨hb, hk⟩)⟩
  · rintro ⟨g1, g2, g3⟩
    exact ⟨(IsB.own hn h1).2 ⟨g1, g2⟩, fun k hk => by
      obtain ⟨a, b⟩ := (IsB.own hn h1).1 hk
      exact g3 k b a⟩

/-- The longest proper border of d's first n bytes. -/
def bord (d : List UInt8) (n : Nat) : Nat := (List.range n).foldl (fun a k => if IsB d (d.take n) k then k else a) 0

theorem greatest (p : Nat → Prop) [DecidablePred p] (h0 : p 0) (n : Nat) : p ((List.range n).foldl (fun a k => if p k then k else a) 0) ∧
    (1 ≤ n → (List.range n).foldl (fun a k => if p k then k else a) 0 < n) ∧ ∀ k, k < n → p k → k ≤ (List.range n).foldl (fun a k => if p k then k else a) 0 := by
  induction n with
  | zero => exact ⟨h0, fun h => by omega, fun k hk => by omega⟩
  | succ n ih =>
    obtain ⟨h1, h2, h3⟩ := ih
    rw [List.range_succ, List.foldl_append]
    simp only [List.foldl_cons, List.foldl_nil]
    by_cases hp : p n
    · rw [if_pos hp]; exact ⟨hp, fun _ => by omega, fun k hk _ => by omega⟩
    · rw [if_neg hp]
      refine ⟨h1, fun _ => ?_, fun k hk hpk => ?_⟩
      · rcases Nat.eq_zero_or_pos n with h | h
        · subst h; simp
        · have := h2 h; omega
      · rcases Nat.lt_or_ge k n with h | h
        · exact h3 k h hpk
        · have : k = n := by omega
          subst this; exact absurd hpk hp

theorem bord_spec (d : List UInt8) {n : Nat} (h1 : 1 ≤ n) : Bk d n (bord d n) := by
  obtain ⟨a, b, c⟩ := greatest (fun k => IsB d (d.take n) k) (IsB.zero _ _) n
  exact ⟨a, b h1, c⟩

theorem Bk.uniq {d : List UInt8} {n a b : Nat} (h1 : Bk d n a) (h2 : Bk d n b) : a = b := by
  have := h1.2.2 b h2.2.1 h2.1
  have := h2.2.2 a h1.2.1 h1.1
  omega

end Hk
