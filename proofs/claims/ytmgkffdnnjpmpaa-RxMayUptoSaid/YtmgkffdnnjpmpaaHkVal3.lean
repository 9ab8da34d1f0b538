/- Hk, part 6: slice expressions, comparisons of aggregates, what is built; all value operations together. -/
import Derived.Test.YtmgkffdnnjpmpaaHkVal2
import Derived.Laws.StructEq
namespace Hk
open Go
set_option linter.unusedVariables false
set_option linter.unusedSimpArgs false

section
variable {P : Program} {ι : Inj} {st : St} {a : Act} {w : World}

/-- A bound of a slice expression, read. -/
theorem vbnd_sound (tm : ∀ s, RA w ι (lk st.tmps s) (a.tmps.getD s undef)) {o : Option Operand} {o' : Option Opd} (hc : cOpdO o = some o') {d : Int} {k : Int → Prop}
    (h : vbnd (o'.map (ev st)) d k) : ∃ n, k n ∧ ((o = none ∧ o' = none ∧ n = d) ∨ ∃ x kk, o = some x ∧ a.eval x = .int kk n) := by
  cases o with
  | none => simp [cOpdO] at hc; subst hc; exact ⟨d, h, .inl ⟨rfl, rfl, rfl⟩⟩
  | some x =>
    simp only [cOpdO] at hc
    obtain ⟨y, hy, rfl⟩ := Option.map_eq_some_iff.1 hc
    have hr := ev_sound tm hy
    simp only [Option.map_some] at h
    generalize ev st y = av at h hr
    unfold vbnd at h
    split at h
    · rename_i heq; cases heq
    · rename_i kk n heq
      cases heq
      exact ⟨n, h, .inr ⟨x, kk, rfl, RA_int hr⟩⟩
    · exact h.elim

theorem run_bound {w : World} (o : Option Operand) (n : Int) (y : Nat) (code : BoundsCode) (x : Operand) (kk : IntKind) (ho : o = some x) (hx : a.eval x = .int kk n) (h0 : 0 ≤ n) (h1 : n ≤ y) :
    (Instr.sliceBound (a.eval x) y code).run P w = .ok n.toNat w := by
  simp [Instr.sliceBound, asIntOf, hx, h0, h1]

theorem run_sliceBounds (isSlice : Bool) (len cap : Nat) (lo hi mx : Option Operand) (l h m : Int) (w : World)
    (hl : (lo = none ∧ l = 0) ∨ ∃ x kk, lo = some x ∧ a.eval x = .int kk l)
    (hh : (hi = none ∧ h = len ∧ mx = none) ∨ ∃ x kk, hi = some x ∧ a.eval x = .int kk h)
    (hm : (mx = none ∧ m = cap) ∨ ∃ x kk, mx = some x ∧ a.eval x = .int kk m)
    (h0 : 0 ≤ l) (h1 : l ≤ h) (h2 : h ≤ m) (h3 : m ≤ cap) :
    (Instr.sliceBounds isSlice len cap (lo.map a.eval) (hi.map a.eval) (mx.map a.eval)).run P w = .ok (l.toNat, h.toNat, m.toNat) w := by
  have b : ∀ (v : Value) (kk : IntKind) (n : Int) (y : Nat) (code : BoundsCode), v = .int kk n → 0 ≤ n → n ≤ (y : Int) → (Instr.sliceBound v y code).run P w = .ok n.toNat w := by
    intro v kk n y code hv h0 h1
    simp [Instr.sliceBound, asIntOf, hv, h0, h1]
  have hm0 : 0 ≤ m := by omega
  have hm1 : (m.toNat : Int) = m := Int.toNat_of_nonneg hm0
  have hh1 : (h.toNat : Int) = h := Int.toNat_of_nonneg (by omega)
  rcases hm with ⟨rfl, rfl⟩ | ⟨xm, km, rfl, em⟩
  · rcases hh with ⟨rfl, rfl, _⟩ | ⟨xh, kh, rfl, eh⟩
    · rcases hl with ⟨rfl, rfl⟩ | ⟨xl, kl, rfl, el⟩
      · simp [Instr.sliceBounds]
      · simp [Instr.sliceBounds, b _ _ _ _ _ el h0 h1]
    · have e1 := b _ _ _ cap (if isSlice then BoundsCode.sliceAcap else BoundsCode.sliceAlen) eh (by omega) h2
      rcases hl with ⟨rfl, rfl⟩ | ⟨xl, kl, rfl, el⟩
      · simp [Instr.sliceBounds, e1]
      · have e2 := b _ _ _ h.toNat BoundsCode.sliceB el h0 (by omega)
        simp [Instr.sliceBounds, e1, e2]
  · have e3 := b _ _ _ cap (if isSlice then BoundsCode.slice3Acap else BoundsCode.slice3Alen) em hm0 h3
    rcases hh with ⟨rfl, rfl, hx⟩ | ⟨xh, kh, rfl, eh⟩
    · cases hx
    · have e1 := b _ _ _ m.toNat BoundsCode.slice3B eh (by omega) (by omega)
      rcases hl with ⟨rfl, rfl⟩ | ⟨xl, kl, rfl, el⟩
      · simp [Instr.sliceBounds, e1, e3]
      · have e2 := b _ _ _ h.toNat BoundsCode.slice3C el h0 (by omega)
        simp [Instr.sliceBounds, e1, e2, e3]

theorem RowAt.later {w : World} {M : Nat → Prop} {c off : Nat} {row : List PV} (h : RowAt w M c off row) {off' : Nat} (e : off = off') : RowAt w M c off' row := e ▸ h

/-- A part of a pure slice, at its place. -/
theorem isl_part {wd len : Nat} {rows rs : List (List PV)} {cap cap' : Option Nat} {oa : Option Addr} {c l m : Nat} (hc : rows.length ≤ c)
    (hr : rows = [] ∨ ∃ ad : Addr, oa = some ad ∧ ad.spot = none ∧ ¬ ι.M ad.block ∧ ad.block < w.heap.size ∧
      ∀ (i : Nat) row, rows[i]? = some row → row.length = wd ∧ RowAt w ι.M ad.block (ad.off + i * wd) row)
    (hrs : (dropN l rows).take len = rs) (hlen : rs.length = len) (hlm : l + len ≤ m) (hcap : ∀ k, cap' = some k → m - l = k) (esz : Nat) (hw : wd = esz ∨ rows = []) :
    RA w ι (.p (.isl wd rs cap')) (.slice (if m = l then oa else oa.map (·.add (l * esz))) len (m - l)) := by
  subst hlen
  rw [dropN_eq] at hrs
  cases rs with
  | nil => exact .p (.nil (fun k hk => hcap k hk))
  | cons r0 rs0 =>
    have hne : rows ≠ [] := by
      intro h; subst h; simp at hrs
    rcases hr with h | ⟨ad, rfl, hs, hM, hb, hr⟩
    · exact absurd h hne
    · rcases hw with rfl | h
      · have hml : m ≠ l := by simp at hlm; omega
        rw [if_neg hml]
        simp only [Option.map_some, add_spot hs]
        refine .p (RP_isl_mk (ad := ⟨ad.block, ad.off + l * wd, none⟩) rfl hM hb (by simp at hlm ⊢; omega) (fun k hk => hcap k hk) fun i row hi => ?_)
        have hi' : rows[l + i]? = some row := by
          have : ((rows.drop l).take (r0 :: rs0).length)[i]? = some row := by rw [hrs]; exact hi
          rw [List.getElem?_take] at this
          split at this
          · rwa [List.getElem?_drop] at this
          · cases this
        obtain ⟨h1, h2⟩ := hr _ _ hi'
        exact ⟨h1, h2.later (by rw [Nat.add_mul, Nat.add_assoc])⟩
      · exact absurd h hne

theorem vslcS_sound (tm : ∀ s, RA w ι (lk st.tmps s) (a.tmps.getD s undef)) {x : AV} {v : Value} (hx : RA w ι x v) {lo hi mx : Option Operand} {lo' hi' mx' : Option Opd}
    (hlo : cOpdO lo = some lo') (hhi : cOpdO hi = some hi') (hmx : cOpdO mx = some mx') (hmh : (mx'.isSome && hi'.isNone) = false) {esz : Nat} {k : AV → Prop}
    (h : vslcS x (lo'.map (ev st)) (hi'.map (ev st)) (mx'.map (ev st)) esz k) {t e : TypeId} (ht : P.underlying t = some (.slice e)) (hs : szT P e = some esz) :
    Vals P w ι k (Instr.sliceAt t v (lo.map a.eval) (hi.map a.eval) (mx.map a.eval)) := by
  have run : ∀ (oa : Option Addr) (len cap : Nat) (l h m : Int) (w' : World),
      ((lo = none ∧ l = 0) ∨ ∃ x kk, lo = some x ∧ a.eval x = .int kk l) → ((hi = none ∧ h = len ∧ mx = none) ∨ ∃ x kk, hi = some x ∧ a.eval x = .int kk h) →
      ((mx = none ∧ m = cap) ∨ ∃ x kk, mx = some x ∧ a.eval x = .int kk m) → 0 ≤ l → l ≤ h → h ≤ m → m ≤ cap →
      (Instr.sliceAt t (.slice oa len cap) (lo.map a.eval) (hi.map a.eval) (mx.map a.eval)).run P w' =
        .ok (.slice (if m.toNat = l.toNat then oa else oa.map (·.add (l.toNat * esz))) (h.toNat - l.toNat) (m.toNat - l.toNat)) w' := by
    intro oa len cap l h m w' e1 e2 e3 h0 h1 h2 h3
    simp [Instr.sliceAt, run_underlying ht, Instr.slice, run_sliceBounds true len cap lo hi mx l h m w' e1 e2 e3 h0 h1 h2 h3, run_sizeOf hs]
  have nomx : ∀ {m' : Option Opd}, cOpdO mx = some m' → m'.map (ev st) = none → mx = none := by
    intro m' h1 h2
    cases mx with
    | none => rfl
    | some x => simp only [cOpdO] at h1; obtain ⟨y, _, rfl⟩ := Option.map_eq_some_iff.1 h1; cases h2
  have hih : hi = none → mx = none := by
    intro h1; subst h1
    simp [cOpdO] at hhi; subst hhi
    cases mx with
    | none => rfl
    | some x => simp only [cOpdO] at hmx; obtain ⟨y, _, rfl⟩ := Option.map_eq_some_iff.1 hmx; simp at hmh
  unfold vslcS at h
  split at h
  · rename_i wd rows cap
    cases hx
    rename_i hx
    obtain ⟨oa, c, rfl, hc, hcap, hr⟩ := RP_isl hx
    split at h
    · rename_i hm0
      have hmn := nomx hmx hm0
      obtain ⟨l, h, el⟩ := vbnd_sound tm hlo h
      obtain ⟨hh, h, eh⟩ := vbnd_sound tm hhi h
      obtain ⟨⟨h0, h1, h2⟩, h⟩ := h
      cases hw : (Nat.beq wd esz || rows.isEmpty) with
      | false => rw [hw] at h; exact h.elim
      | true =>
        rw [hw] at h
        obtain ⟨rs, hrs, hlen, hk⟩ := h
        have hwd : wd = esz ∨ rows = [] := by simp at hw; exact hw.imp (fun h => h) (fun h => h)
        refine .mk hk (isl_part (cap := cap) (l := l.toNat) (m := c) hc hr hrs hlen (by omega) (fun k hk => ?_) esz hwd) fun w' _ => ?_
        · obtain ⟨k0, hk0, rfl⟩ := Option.map_eq_some_iff.1 hk
          rw [hcap _ hk0]
        · rw [run oa rows.length c l hh c w' (el.imp (fun h => ⟨h.1, h.2.2⟩) id) (eh.imp (fun h => ⟨h.1, h.2.2, hmn⟩) id) (.inl ⟨hmn, rfl⟩) h0 h1 (by omega) (by omega)]
          simp
    · rename_i m0 hm0
      obtain ⟨l, h, el⟩ := vbnd_sound tm hlo h
      obtain ⟨hh, h, eh⟩ := vbnd_sound tm hhi h
      rw [← hm0] at h
      obtain ⟨m, h, em⟩ := vbnd_sound tm hmx h
      have em' : ∃ x kk, mx = some x ∧ a.eval x = .int kk m := by
        rcases em with ⟨h1, h2, h3⟩ | em
        · subst h2; cases hm0
        · exact em
      obtain ⟨⟨h0, h1, h2, h3⟩, h⟩ := h
      cases hw : (Nat.beq wd esz || rows.isEmpty) with
      | false => rw [hw] at h; exact h.elim
      | true =>
        rw [hw] at h
        obtain ⟨rs, hrs, hlen, hk⟩ := h
        have hwd : wd = esz ∨ rows = [] := by simp at hw; exact hw.imp (fun h => h) (fun h => h)
        refine .mk hk (isl_part (cap := cap) (l := l.toNat) (m := m.toNat) hc hr hrs hlen (by omega) (fun k hk => ?_) esz hwd) fun w' _ => ?_
        · cases hk; rfl
        · exact run oa rows.length c l hh m w' (el.imp (fun h => ⟨h.1, h.2.2⟩) id) (eh.imp (fun h => ⟨h.1, h.2.2, hih h.1⟩) id) (.inr em') h0 h1 (by omega) (by omega)
  · rename_i b wd i len cap
    -- an own slice's part at its place
    have part : ∀ (l hh m : Int) (cap' : Option Nat) (oa : Option Addr) (cc : Nat), RA w ι (.sl b wd i len cap) (.slice oa len cc) → 0 ≤ l → l ≤ hh → hh ≤ m → hh ≤ len → m ≤ cc →
        (∀ k, cap' = some k → m.toNat - l.toNat = k) →
        RA w ι (.sl b wd (i + l.toNat) (hh.toNat - l.toNat) cap') (.slice (if m.toNat = l.toNat then oa else oa.map (·.add (l.toNat * wd))) (hh.toNat - l.toNat) (m.toNat - l.toNat)) := by
      intro l hh m cap' oa cc hr h0 h1 h2 h3 h4 hcap'
      by_cases hz : m.toNat = l.toNat
      · have e1 : hh.toNat - l.toNat = 0 := by omega
        have e2 : m.toNat - l.toNat = 0 := by omega
        rw [if_pos hz, e1, e2]
        exact .slz fun k hk => by rw [← hcap' k hk]; exact e2
      · rw [if_neg hz]
        cases hr with
        | sl hb hl hcap hs' =>
          rename_i c o s
          simp only [Option.map_some, add_none]
          rw [show o + i * wd + l.toNat * wd = o + (i + l.toNat) * wd by rw [Nat.add_mul, Nat.add_assoc]]
          refine .sl hb (by omega) hcap' ?_
          have : (i + l.toNat + (m.toNat - l.toNat)) * wd ≤ (i + cc) * wd := Nat.mul_le_mul_right _ (by omega)
          omega
        | slz hcap => omega
    have shape : ∃ oa cc, v = .slice oa len cc ∧ (∀ k, cap = some k → cc = k) ∧ len ≤ cc := by
      cases hx with
      | sl hb hl hcap hs' => exact ⟨_, _, rfl, hcap, hl⟩
      | slz hcap => exact ⟨_, _, rfl, fun k hk => (hcap k hk).symm, Nat.le_refl _⟩
    obtain ⟨oa, cc, rfl, hcap, hlc⟩ := shape
    split at h
    · rename_i hm0
      have hmn := nomx hmx hm0
      obtain ⟨l, h, el⟩ := vbnd_sound tm hlo h
      obtain ⟨hh, h, eh⟩ := vbnd_sound tm hhi h
      obtain ⟨⟨h0, h1, h2⟩, hk⟩ := h
      cases hw : Nat.beq wd esz with
      | false => rw [hw] at hk; exact hk.elim
      | true =>
        rw [hw] at hk
        obtain rfl := Nat.eq_of_beq_eq_true hw
        refine .mk hk (part l hh cc _ oa cc hx h0 h1 (by omega) h2 (by omega) fun k hk => ?_) fun w' _ => ?_
        · obtain ⟨k0, hk0, rfl⟩ := Option.map_eq_some_iff.1 hk
          rw [hcap _ hk0]; simp
        · exact run oa len cc l hh cc w' (el.imp (fun h => ⟨h.1, h.2.2⟩) id) (eh.imp (fun h => ⟨h.1, h.2.2, hmn⟩) id) (.inl ⟨hmn, rfl⟩) h0 h1 (by omega) (by omega)
    · rename_i m0 hm0
      obtain ⟨l, h, el⟩ := vbnd_sound tm hlo h
      obtain ⟨hh, h, eh⟩ := vbnd_sound tm hhi h
      rw [← hm0] at h
      obtain ⟨m, h, em⟩ := vbnd_sound tm hmx h
      have em' : ∃ x kk, mx = some x ∧ a.eval x = .int kk m := by
        rcases em with ⟨h1, h2, h3⟩ | em
        · subst h2; cases hm0
        · exact em
      obtain ⟨⟨h0, h1, h2, h3⟩, hk⟩ := h
      cases hw : Nat.beq wd esz with
      | false => rw [hw] at hk; exact hk.elim
      | true =>
        rw [hw] at hk
        obtain rfl := Nat.eq_of_beq_eq_true hw
        refine .mk hk (part l hh m _ oa cc hx h0 h1 h2 (by omega) (by omega) fun k hk => ?_) fun w' _ => ?_
        · cases hk; rfl
        · exact run oa len cc l hh m w' (el.imp (fun h => ⟨h.1, h.2.2⟩) id) (eh.imp (fun h => ⟨h.1, h.2.2, hih h.1⟩) id) (.inr em') h0 h1 (by omega) (by omega)
  · exact h.elim

end
end Hk
