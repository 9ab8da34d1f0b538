/- Hk, part 17: weaker values. -/
import Derived.Test.YtmgkffdnnjpmpaaHkCopy
namespace Hk
open Go
set_option linter.unusedVariables false
set_option linter.unusedSimpArgs false

theorem PLeL.len : ∀ {xs ys : List PV}, PLeL xs ys → xs.length = ys.length
  | _, _, .refl _ => rfl
  | _, _, .cons _ h => by simp [h.len]
theorem PLeR.len : ∀ {xs ys : List (List PV)}, PLeR xs ys → xs.length = ys.length
  | _, _, .refl _ => rfl
  | _, _, .cons _ h => by simp [h.len]

theorem PLe.one {x y : PV} (h : PLe x y) (h1 : x.one = true) : y.one = true := by
  cases h <;> first | exact h1 | rfl

theorem PLeL.get : ∀ {xs ys : List PV}, PLeL xs ys → ∀ (i : Nat) y, ys[i]? = some y → ∃ x, xs[i]? = some x ∧ PLe x y
  | _, _, .refl _, i, y, h => ⟨y, h, .refl y⟩
  | _, _, .cons h0 h1, i, y, h => by
    cases i with
    | zero => simp at h; subst h; exact ⟨_, rfl, h0⟩
    | succ i => simp at h; simpa using h1.get i y h
theorem PLeR.get : ∀ {xs ys : List (List PV)}, PLeR xs ys → ∀ (i : Nat) y, ys[i]? = some y → ∃ x, xs[i]? = some x ∧ PLeL x y
  | _, _, .refl _, i, y, h => ⟨y, h, .refl y⟩
  | _, _, .cons h0 h1, i, y, h => by
    cases i with
    | zero => simp at h; subst h; exact ⟨_, rfl, h0⟩
    | succ i => simp at h; simpa using h1.get i y h

section
variable {w : World} {M : Nat → Prop}

theorem PLe.sound {x : PV} {v : Value} (h : RP w M x v) : ∀ {y : PV}, PLe x y → RP w M y v := by
  induction h with
  | int k n => intro y h; cases h; exact .int k n
  | b x => intro y h; cases h; exact .b x
  | str l => intro y h; cases h; exact .str l
  | lit v h => intro y h'; cases h'; exact .lit v h
  | nil h =>
    intro y hle
    cases hle with
    | refl => exact .nil h
    | isl hr hc =>
      have := hr.len
      rename_i rows' _
      have e : rows' = [] := List.eq_nil_of_length_eq_zero (by simpa using this.symm)
      subst e
      exact .nil fun k hk => h k (by rcases hc with rfl | rfl; cases hk; exact hk)
    | nil hc => exact .nil fun k hk => h k (by rcases hc with rfl | rfl; cases hk; exact hk)
  | isl hs hM hb hc hcap hrow hone hcell hrp ih =>
    intro y hle
    cases hle with
    | refl => exact .isl hs hM hb hc hcap hrow hone hcell hrp
    | isl hr hcc =>
      rename_i wd rows cap a c cv rows' cap'
      have hlen := hr.len
      have := RP.isl (rows := rows') (cap := cap') (cv := cv) (wd := wd) (c := c) hs hM hb (by omega) (fun k hk => hcap k (by rcases hcc with rfl | rfl; cases hk; exact hk))
        (fun i row hi => by obtain ⟨r0, h0, h1⟩ := hr.get i row hi; rw [← h1.len]; exact hrow i r0 h0)
        (fun i row j x hi hx => by
          obtain ⟨r0, h0, h1⟩ := hr.get i row hi
          obtain ⟨x0, g0, g1⟩ := h1.get j x hx
          exact g1.one (hone i r0 j x0 h0 g0))
        (fun i row j x hi hx => by
          obtain ⟨r0, h0, h1⟩ := hr.get i row hi
          obtain ⟨x0, g0, g1⟩ := h1.get j x hx
          exact hcell i r0 j x0 h0 g0)
        (fun i row j x hi hx => by
          obtain ⟨r0, h0, h1⟩ := hr.get i row hi
          obtain ⟨x0, g0, g1⟩ := h1.get j x hx
          exact ih i r0 j x0 h0 g0 g1)
      rw [hlen]; exact this
    | nil hcc => exact .nil fun k hk => hcap k (by rcases hcc with rfl | rfl; cases hk; exact hk)
  | irow hs hM hb hone hcell hrp ih => intro y h; cases h; exact .irow hs hM hb hone hcell hrp
  | agg hl hone h ih =>
    intro y hle
    cases hle with
    | refl => exact .agg hl hone h
    | agg hL =>
      refine .agg (by rw [hl, hL.len]) (fun i y hy => ?_) (fun i y hy => ?_)
      all_goals obtain ⟨x0, g0, g1⟩ := hL.get i y hy
      · exact g1.one (hone i x0 g0)
      · exact ih i x0 g0 g1
  | fn h1 h2 h3 h4 ih3 ih4 => intro y h; cases h; exact .fn h1 h2 h3 h4
  | ifc h ih => intro y h'; cases h'; exact .ifc h

end

theorem KLeL.get {h : List Blk} {fz kp : Nat → Bool} : ∀ {xs ys : List AV}, KLeL h fz kp xs ys → xs.length = ys.length ∧ ∀ (i : Nat) y, ys[i]? = some y → ∃ x, xs[i]? = some x ∧ KLe h fz kp x y
  | _, _, .nil => ⟨rfl, by simp⟩
  | _, _, .cons h0 h1 => ⟨by simp [h1.get.1], fun i y hy => by
    cases i with
    | zero => simp at hy; subst hy; exact ⟨_, rfl, h0⟩
    | succ i => simp at hy; simpa using h1.get.2 i y hy⟩

section
variable {w : World} {ι ι2 : Inj} {h : List Blk} {fz kp : Nat → Bool}

theorem KLe.sound (hr : HRel ι h w) (hfz : ∀ b, fz b = true → ∀ c o s, ι b = some (c, o, s) → ¬ ι2.M c) (hkp : ∀ b, kp b = true → ∀ p, ι b = some p → ι2 b = some p)
    (hM : ∀ c, ι2.M c → ι.M c) {x : AV} {v : Value} (hx : RA w ι x v) : ∀ {y : AV}, KLe h fz kp x y → RA w ι2 y v := by
  have hL : Later ι.M w w ι2.M := ⟨fun _ _ _ h => h, fun c hc => .inl (hM c hc), Nat.le_refl _⟩
  induction hx with
  | p hp =>
    intro y hle
    cases hle with
    | p hp' => exact .p (hp'.sound (hp.later hL))
    | und => exact .und _
  | und v =>
    intro y hle
    cases hle with
    | und => exact .und _
  | ptr hb =>
    intro y hle
    cases hle with
    | und => exact .und _
    | ptr hk => exact .ptr (hkp _ hk _ hb)
  | sl hb hl hcap hs =>
    intro y hle
    rename_i b wd i len c o s cc cap
    cases hle with
    | und => exact .und _
    | sl hk hc => exact .sl (hkp _ hk _ hb) hl (fun k hk => hcap k (by rcases hc with rfl | rfl; cases hk; exact hk)) hs
    | fsl hf hn hrs hlen hp =>
      rename_i rows rs y
      refine .p (hp.sound ?_)
      rw [dropN_eq] at hrs
      rw [← hlen]
      refine RP_isl_mk (ad := ⟨c, o + i * wd, none⟩) rfl (hfz _ hf _ _ _ hb) (hr.lt ⟨b, o, s, hb⟩) (by omega) (by simp) fun n row hi => ?_
      have hi' : rows[i + n]? = some row := by
        have : ((rows.drop i).take len)[n]? = some row := by rw [hrs]; exact hi
        rw [List.getElem?_take] at this
        split at this
        · rwa [List.getElem?_drop] at this
        · cases this
      obtain ⟨h1, h2⟩ := hr.row hb hn hi'
      refine ⟨h1, fun j x hx => ?_⟩
      obtain ⟨h3, v, h4, h5⟩ := h2 j x hx
      exact ⟨h3, v, by rw [← h4]; congr 2; simp [Nat.add_mul, Nat.add_assoc], h5.later hL⟩
  | slz hcap =>
    intro y hle
    cases hle with
    | und => exact .und _
    | sl hk hc => exact .slz (fun k hk => hcap k (by rcases hc with rfl | rfl; cases hk; exact hk))
    | fsl hf hn hrs hlen hp =>
      rename_i rows rs y
      have e : rs = [] := List.eq_nil_of_length_eq_zero hlen
      subst e
      exact .p (hp.sound (.nil (by simp)))
  | csl hb hl =>
    intro y hle
    cases hle with
    | und => exact .und _
    | csl hk => exact .csl (hkp _ hk _ hb) hl
  | cslz =>
    intro y hle
    cases hle with
    | und => exact .und _
    | csl hk => exact .cslz
  | agg hl hone hx ih =>
    intro y hle
    cases hle with
    | und => exact .und _
    | agg hK =>
      obtain ⟨e, g⟩ := hK.get
      refine .agg (by rw [hl, e]) (fun i y hy => ?_) (fun i y hy => ?_)
      all_goals obtain ⟨x0, g0, g1⟩ := g i y hy
      · exact hone i x0 g0
      · exact ih i x0 g0 g1
    | aggp hK =>
      obtain ⟨e, g⟩ := hK.get
      rename_i cells cs ys
      have key : ∀ (i : Nat) y, ys[i]? = some y → oneC (cs.getD i undef) = true ∧ RP w ι2.M y (cs.getD i undef) := fun i y hy => by
        obtain ⟨x0, g0, g1⟩ := g i (.p y) (by rw [List.getElem?_map, hy]; rfl)
        exact And.intro (hone i x0 g0) (RA_p (ih i x0 g0 g1))
      exact .p (.agg (by rw [hl, e]; simp) (fun i y hy => (key i y hy).2.one_of (key i y hy).1) (fun i y hy => (key i y hy).2))
  | tup hl hx ih =>
    intro y hle
    cases hle with
    | und => exact .und _
    | tup hK =>
      obtain ⟨e, g⟩ := hK.get
      refine .tup (by rw [hl, e]) (fun i y hy => ?_)
      obtain ⟨x0, g0, g1⟩ := g i y hy
      exact ih i x0 g0 g1
  | fn h1 h2 h3 h4 ih3 ih4 =>
    intro y hle
    cases hle with
    | und => exact .und _
    | fn ha hc =>
      obtain ⟨e1, g1⟩ := ha.get
      obtain ⟨e2, g2⟩ := hc.get
      refine .fn (by rw [h1, e1]) (by rw [h2, e2]) (fun i y hy => ?_) (fun i y hy => ?_)
      · obtain ⟨x0, q0, q1⟩ := g1 i y hy; exact ih3 i x0 q0 q1
      · obtain ⟨x0, q0, q1⟩ := g2 i y hy; exact ih4 i x0 q0 q1
    | fnp ha hc =>
      obtain ⟨e1, g1⟩ := ha.get
      obtain ⟨e2, g2⟩ := hc.get
      refine .p (.fn (by rw [h1, e1]; simp) (by rw [h2, e2]; simp) (fun i y hy => ?_) (fun i y hy => ?_))
      · obtain ⟨x0, q0, q1⟩ := g1 i (.p y) (by rw [List.getElem?_map, hy]; rfl); exact RA_p (ih3 i x0 q0 q1)
      · obtain ⟨x0, q0, q1⟩ := g2 i (.p y) (by rw [List.getElem?_map, hy]; rfl); exact RA_p (ih4 i x0 q0 q1)
  | ifc hx ih =>
    intro y hle
    cases hle with
    | und => exact .und _
    | ifc hK => exact .ifc (ih hK)
    | ifcp hK => exact .p (.ifc (RA_p (ih hK)))

end
end Hk
