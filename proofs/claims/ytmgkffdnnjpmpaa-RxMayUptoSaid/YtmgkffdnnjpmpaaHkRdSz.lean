/- Arguments as pure values, and how great they are. -/
import Derived.Test.YtmgkffdnnjpmpaaHkRead3
import Derived.Test.YtmgkffdnnjpmpaaHkRxArg
namespace Hk
open Go Go.ChangeShapes Go.WideShapes Go.RowKit
set_option linter.unusedVariables false
set_option linter.unusedSimpArgs false

mutual
/-- How many values there are, each as often as it is met. -/
def psz : PV → Nat
  | .isl _ rows _ => pszR rows + 1
  | _ => 1
def pszL : List PV → Nat
  | [] => 0
  | x :: r => psz x + pszL r
def pszR : List (List PV) → Nat
  | [] => 0
  | r :: q => pszL r + pszR q
end

theorem pszL_app : ∀ (a b : List PV), pszL (a ++ b) = pszL a + pszL b
  | [], b => by simp [pszL]
  | x :: r, b => by rw [List.cons_append, pszL, pszL, pszL_app r b, Nat.add_assoc]

theorem psz_flat : ∀ l : List (List PV), pszL l.flatten = pszR l
  | [] => rfl
  | r :: q => by rw [List.flatten_cons, pszL_app, pszR, psz_flat q]

/-- A measure of readings. -/
structure Bulk {H : Type} (bulk : DataW H → Nat) : Prop where
  one : ∀ d, 1 ≤ bulk d
  slice : ∀ els spare, (els.map bulk).sum + 1 ≤ bulk (.slice els spare)
  agg : ∀ parts, (parts.map bulk).sum ≤ bulk (.agg parts)

theorem sum_le {H : Type} {bulk : DataW H → Nat} : ∀ {rs : List (List PV)} {ys : List (DataW H × List MemPlace)}, rs.length = ys.length →
    (∀ (i : Nat) r, rs[i]? = some r → ∃ y, ys[i]? = some y ∧ pszL r ≤ bulk y.1) → pszR rs ≤ ((ys.map (·.1)).map bulk).sum
  | [], [], _, _ => by simp [pszR]
  | r :: rs, y :: ys, hl, h => by
    obtain ⟨z, hz, h0⟩ := h 0 r rfl
    cases hz
    have := sum_le (rs := rs) (ys := ys) (bulk := bulk) (by simpa using hl) fun i r' hr' => h (i + 1) r' (by simpa using hr')
    simp only [pszR, List.map_cons, List.sum_cons]
    omega

theorem parts_arrI {W : World} {Q : Nat → List PV → Prop} {sz : Nat} : ∀ (n : Nat) (cs : List Value), cs.length = n * sz → (∀ i, i < n → ∃ xs, Q i xs ∧ Are W xs ((cs.drop (i * sz)).take sz)) →
    ∃ parts : List (List PV), parts.length = n ∧ (∀ (i : Nat) r, parts[i]? = some r → Q i r) ∧ Are W parts.flatten cs
  | 0, cs, hl, _ => by
    have : cs = [] := List.eq_nil_of_length_eq_zero (by simpa using hl)
    subst this
    exact ⟨[], rfl, by simp, rfl, by simp⟩
  | n + 1, cs, hl, h => by
    obtain ⟨x0, q0, a0⟩ := h 0 (by omega)
    obtain ⟨ps, h1, h2, h3⟩ := parts_arrI (Q := fun i => Q (i + 1)) (W := W) (sz := sz) n (cs.drop sz) (by rw [List.length_drop, hl, Nat.add_mul, Nat.one_mul]; omega) (fun i hi => by
      obtain ⟨xs, q, a⟩ := h (i + 1) (by omega)
      refine ⟨xs, q, ?_⟩
      rw [List.drop_drop]
      rw [Nat.add_mul, Nat.one_mul, Nat.add_comm] at a
      exact a)
    refine ⟨x0 :: ps, by simp [h1], fun i r hr => ?_, ?_⟩
    · cases i with
      | zero => cases hr; exact q0
      | succ i => exact h2 i r (by simpa using hr)
    · rw [Nat.zero_mul, List.drop_zero] at a0
      have := a0.append h3
      rwa [List.take_append_drop] at this

theorem parts_structI {P : Program} {L : List TypeId} {W : World} {cs : List Value} : ∀ (fs : List Field) (off : Nat) (Q : Nat → List PV → Prop), denseF P L off fs cs.length = true →
    (∀ (i : Nat) f, fs[i]? = some f → ∃ xs, (Shp P f.type xs ∧ Q i xs) ∧ Are W xs ((cs.drop f.offset).take (P.cellsOf f.type))) →
    ∃ parts : List (List PV), parts.length = fs.length ∧ (∀ (i : Nat) f r, fs[i]? = some f → parts[i]? = some r → Shp P f.type r) ∧ (∀ (i : Nat) r, parts[i]? = some r → Q i r) ∧ Are W parts.flatten (cs.drop off)
  | [], off, Q, hd, _ => by
    simp only [denseF, beq_iff_eq] at hd
    subst hd
    exact ⟨[], rfl, by simp, by simp, by simp [Are]⟩
  | f :: r, off, Q, hd, h => by
    simp only [denseF, Bool.and_eq_true, beq_iff_eq] at hd
    obtain ⟨⟨ho, _⟩, hd⟩ := hd
    obtain ⟨x0, ⟨s0, q0⟩, a0⟩ := h 0 f rfl
    obtain ⟨ps, h1, h2, h4, h3⟩ := parts_structI r (off + P.cellsOf f.type) (fun i => Q (i + 1)) hd (fun i g hg => h (i + 1) g (by simpa using hg))
    refine ⟨x0 :: ps, by simp [h1], fun i g q hg hq => ?_, fun i q hq => ?_, ?_⟩
    · cases i with
      | zero => simp at hg hq; subst hg; subst hq; exact s0
      | succ i => simp at hg hq; exact h2 i g q hg hq
    · cases i with
      | zero => simp at hq; subst hq; exact q0
      | succ i => exact h4 i q (by simpa using hq)
    · rw [ho] at a0
      have := a0.append h3
      rw [← List.drop_drop, List.take_append_drop] at this
      exact this

theorem trod_sz {H : Type} {bulk : DataW H → Nat} (hB : Bulk bulk) {enc : TypeId × Value → H} {P : Program} {L : List TypeId} (hc : closedT P L = true) {W : World} {sp : Nat → Bool} {held : Bool} : ∀ (fuel : Nat) (t : TypeId) (cs : List Value) (d : DataW H) (ps : List MemPlace), t ∈ L →
    DataW.trod enc P W 0 sp held fuel t cs = some (d, ps) → ∃ xs, (Shp P t xs ∧ pszL xs ≤ bulk d) ∧ Are W xs cs := by
  intro fuel
  induction fuel with
  | zero => intro t cs d ps _ h; simp [DataW.trod] at h
  | succ fuel ih =>
    intro t cs d ps ht h
    have hct := List.all_eq_true.1 hc t ht
    unfold DataW.trod at h
    split at h
    case h_1 x hu => exact ⟨[.b x], ⟨.b x hu, hB.one d⟩, .one rfl (.b x)⟩
    case h_2 k k' n hu =>
      split at h
      · rename_i hk
        obtain ⟨rfl, hw⟩ := hk
        exact ⟨[.int _ n], ⟨.int hu hw, hB.one d⟩, .one rfl (.int _ n)⟩
      · cases h
    case h_4 s hu =>
      split at h
      · rename_i hs
        exact ⟨[.str s.data.toList], ⟨.str hu (by simpa using hs), hB.one d⟩, .one rfl (.str' s)⟩
      · cases h
    case h_7 e hu => exact ⟨[.isl 0 [] (some 0)], ⟨.nil hu, hB.one d⟩, .one rfl (.nil fun k hk => by cases hk; rfl)⟩
    case h_8 e a len cap hu =>
      rw [hu] at hct
      simp only [Bool.and_eq_true, decide_eq_true_eq, List.contains_eq_mem] at hct
      simp only at h
      split at h
      · rename_i hcond
        obtain ⟨els, hels, hrest⟩ := Option.bind_eq_some_iff.1 h
        obtain ⟨rest, _, hd'⟩ := Option.map_eq_some_iff.1 hrest
        have hd' := (Prod.mk.inj hd').1
        obtain ⟨hl, hget⟩ := mapM_get hels
        have row : ∀ i, i < len → ∃ xs cv, (Shp P e xs ∧ ∃ y, els[i]? = some y ∧ pszL xs ≤ bulk y.1) ∧ Are W xs cv ∧ cv.length = P.cellsOf e ∧ ∀ j, j < P.cellsOf e → W.cell? ((a.add (i * P.cellsOf e)).add j) = cv[j]? := fun i hi => by
          obtain ⟨y, hyi, hy⟩ := hget i i (by simp [hi])
          obtain ⟨cv, hcv, hy⟩ := Option.bind_eq_some_iff.1 hy
          obtain ⟨xs, ⟨h1, hsz⟩, h2⟩ := ih _ _ y.1 y.2 hct.1 hy
          unfold World.cells? at hcv
          split at hcv
          · obtain ⟨g1, g2⟩ := mapM_get hcv
            refine ⟨xs, cv, ⟨h1, y, hyi, hsz⟩, h2, by simpa using g1, fun j hj => ?_⟩
            obtain ⟨z, hz, hz2⟩ := g2 j j (by simp [hj])
            rw [hz, hz2]
          · cases hcv
        -- the rows
        have rows : ∀ n, n ≤ len → ∃ rs : List (List PV), rs.length = n ∧ ∀ (i : Nat) r, rs[i]? = some r → (Shp P e r ∧ ∃ y, els[i]? = some y ∧ pszL r ≤ bulk y.1) ∧ ∃ cv, Are W r cv ∧ cv.length = P.cellsOf e ∧ ∀ j, j < P.cellsOf e → W.cell? ((a.add (i * P.cellsOf e)).add j) = cv[j]? := by
          intro n
          induction n with
          | zero => intro _; exact ⟨[], rfl, by simp⟩
          | succ n ihn =>
            intro hn
            obtain ⟨rs, h1, h2⟩ := ihn (by omega)
            obtain ⟨xs, cv, g1, g2, g3, g4⟩ := row n (by omega)
            refine ⟨rs ++ [xs], by simp [h1], fun i r hi => ?_⟩
            rw [List.getElem?_append] at hi
            split at hi
            · exact h2 i r hi
            · rename_i hge
              have : i = n := by
                rcases Nat.lt_or_ge (i - rs.length) 1 with h' | h'
                · omega
                · rw [List.getElem?_eq_none (by simpa using h')] at hi; cases hi
              subst this
              rw [h1, Nat.sub_self] at hi
              simp at hi
              subst hi
              exact ⟨g1, cv, g2, g3, g4⟩
        obtain ⟨rs, r1, r2⟩ := rows len (Nat.le_refl _)
        have hsum : pszR rs ≤ ((els.map (·.1)).map bulk).sum := sum_le (by rw [r1, hl]; simp) fun i r hi => (r2 i r hi).1.2
        refine ⟨[.isl (P.cellsOf e) rs none], ⟨.sl hu (by omega) (fun i r hi => (r2 i r hi).1.1), ?_⟩, .one rfl ?_⟩
        · rw [← hd']
          have := hB.slice (els.map (·.1)) (rest.map (·.1))
          show pszR rs + 1 + 0 ≤ _
          omega
        rw [← r1]
        by_cases h0 : rs = []
        · subst h0
          exact .nil fun k hk => by cases hk
        · have hpos : 0 < rs.length := List.length_pos_iff.2 h0
          obtain ⟨_, cv0, a0, l0, c0⟩ := r2 0 rs[0] (List.getElem?_eq_getElem hpos)
          have hc0 := c0 0 hct.2
          rw [Nat.zero_mul] at hc0
          have hadd : (a.add 0).add 0 = a := rfl
          rw [hadd, List.getElem?_eq_getElem (by omega)] at hc0
          have hspot : a.spot = none := by
            unfold World.cell? at hc0
            split at hc0
            · split at hc0
              · cases hc0
              · rename_i hs; simpa using hs
            · cases hc0
          have hblk : a.block < W.heap.size := by
            unfold World.cell? at hc0
            split at hc0
            · rename_i hb; exact (Array.getElem?_eq_some_iff.1 hb).1
            · cases hc0
          obtain ⟨ab, ao, asp⟩ := a
          simp only at hspot hblk
          subst hspot
          have get : ∀ (i : Nat) (r : List PV) (j : Nat) (x : PV), rs[i]? = some r → r[j]? = some x → x.one = true ∧ ∃ v, W.cell? ⟨ab, ao + (i * P.cellsOf e + j), none⟩ = some v ∧ RP W noInj.M x v := fun i r j x hi hx => by
            obtain ⟨_, cv, ⟨al, ag⟩, cl, cc⟩ := r2 i r hi
            have hj : j < P.cellsOf e := by rw [← cl, ← al]; exact (List.getElem?_eq_some_iff.1 hx).1
            have h3 := cc j hj
            rw [add_none, add_none] at h3
            obtain ⟨o1, rp⟩ := ag j x hx
            refine ⟨o1, cv.getD j undef, ?_, rp⟩
            rw [← Nat.add_assoc, h3, List.getElem?_eq_getElem (by omega)]
            simp [cl, hj]
          refine RP_isl_mk (ad := ⟨ab, ao, none⟩) rfl (noInj_M _) hblk (by omega) (by simp) fun i r hi => ?_
          obtain ⟨_, cv, ⟨al, ag⟩, cl, cc⟩ := r2 i r hi
          refine ⟨by rw [al, cl], fun j x hx => ?_⟩
          obtain ⟨o1, v, hv, rp⟩ := get i r j x hi hx
          exact ⟨o1, v, by rw [Nat.add_assoc]; exact hv, rp⟩
      · cases h
    case h_9 fs hu =>
      rw [hu] at hct
      split at h
      · rename_i hlen
        obtain ⟨ys, hys, hd'⟩ := Option.map_eq_some_iff.1 h
        have hd' := (Prod.mk.inj hd').1
        obtain ⟨hl, hget⟩ := mapM_get hys
        obtain ⟨parts, p1, p2, p4, p3⟩ := parts_structI (P := P) (L := L) (W := W) fs.toList 0 (fun i xs => ∃ y, ys[i]? = some y ∧ pszL xs ≤ bulk y.1) (by rw [hlen]; exact hct) (fun i f hi => by
          obtain ⟨y, hyi, hy⟩ := hget i f hi
          obtain ⟨xs, ⟨g1, g2⟩, g3⟩ := ih _ _ y.1 y.2 (denseF_mem _ _ hct f (List.mem_of_getElem? hi)) hy
          exact ⟨xs, ⟨g1, y, hyi, g2⟩, g3⟩)
        refine ⟨parts.flatten, ⟨.struct hu (by simpa using p1) (fun i f r hf hr => p2 i f r (by simpa using hf) hr), ?_⟩, by simpa using p3⟩
        rw [← hd', psz_flat]
        exact Nat.le_trans (sum_le (by rw [p1, hl]) p4) (hB.agg _)
      · cases h
    case h_10 n e hu =>
      rw [hu] at hct
      simp only [Bool.and_eq_true, beq_iff_eq, List.contains_eq_mem, decide_eq_true_eq] at hct
      split at h
      · rename_i hlen
        obtain ⟨ys, hys, hd'⟩ := Option.map_eq_some_iff.1 h
        have hd' := (Prod.mk.inj hd').1
        obtain ⟨hl, hget⟩ := mapM_get hys
        obtain ⟨parts, p1, p2, p3⟩ := parts_arrI (W := W) (Q := fun i xs => Shp P e xs ∧ ∃ y, ys[i]? = some y ∧ pszL xs ≤ bulk y.1) (sz := P.cellsOf e) n _ (by rw [hlen, hct.2]) (fun i hi => by
          obtain ⟨y, hyi, hy⟩ := hget i i (by simp [hi])
          obtain ⟨xs, ⟨g1, g2⟩, g3⟩ := ih _ _ y.1 y.2 hct.1 hy
          exact ⟨xs, ⟨g1, y, hyi, g2⟩, g3⟩)
        refine ⟨parts.flatten, ⟨.arr hu p1 (fun i r hr => (p2 i r hr).1), ?_⟩, p3⟩
        rw [← hd', psz_flat]
        exact Nat.le_trans (sum_le (by rw [p1, hl]; simp) fun i r hr => (p2 i r hr).2) (hB.agg _)
      · cases h
    all_goals first | (cases h; done) | (rename_i hu; rw [hu] at hct; simp at hct; done) | skip

end Hk
