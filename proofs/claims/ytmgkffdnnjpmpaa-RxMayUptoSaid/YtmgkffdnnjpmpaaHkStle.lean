/- Hk: weaker states; nil slices that become the call's own. -/
import Derived.Test.YtmgkffdnnjpmpaaHkReg
import Derived.Test.YtmgkffdnnjpmpaaHkWk
namespace Hk
open Go
set_option linter.unusedVariables false

section
variable {cx : Cx} {ι : Inj} {st st' : St} {a : Act} {w : World}

theorem liveB_iff {h : List Blk} {b : Nat} : liveB h b = true ↔ nth .dead h b ≠ .dead := by
  unfold liveB
  cases nth .dead h b <;> simp

theorem liveB_false {h : List Blk} {b : Nat} : liveB h b = false ↔ nth .dead h b = .dead := by
  unfold liveB
  cases nth .dead h b <;> simp

/-- The blocks that a heap still has. -/
def Inj.cut (ι : Inj) (h : List Blk) : Inj := ⟨fun b => if liveB h b then ι b else none, ι.X⟩

theorem Inj.cut_some {h : List Blk} {b : Nat} {p : Nat × Nat × Nat} (hb : (ι.cut h) b = some p) : ι b = some p ∧ liveB h b = true := by
  simp only [Inj.cut] at hb
  split at hb
  · rename_i hl; exact ⟨hb, hl⟩
  · cases hb

theorem Inj.cut_live {h : List Blk} {b : Nat} (hl : liveB h b = true) : (ι.cut h) b = ι b := by
  simp only [Inj.cut, hl, if_true]

theorem Inj.cut_M {h : List Blk} {c : Nat} (hc : (ι.cut h).M c) : ι.M c := by
  rcases hc with ⟨b, o, s, hb⟩ | hc
  · exact .inl ⟨b, o, s, (Inj.cut_some hb).1⟩
  · exact .inr hc

theorem HLe.get {h : List Blk} {fz kp : Nat → Bool} : ∀ {xs ys : List Blk}, HLe h fz kp xs ys → ∀ b, BLe h fz kp (nth .dead xs b) (nth .dead ys b)
  | _, _, .nil l, b => by rw [nth_lt _ [] b (by simp)]; exact .dead _
  | _, _, .cons h0 h1, b => by
    cases b with
    | zero => exact h0
    | succ b => exact h1.get b

theorem TLe.get {h : List Blk} {fz kp : Nat → Bool} {t : List (Nat × AV)} : ∀ {t' : List (Nat × AV)}, TLe h fz kp t t' → ∀ s, lk t' s = .undef ∨ KLe h fz kp (lk t s) (lk t' s)
  | _, .nil, s => .inl rfl
  | _, .cons (s := s0) h0 h1, s => by
    simp only [lk]
    by_cases e : s0 = s
    · subst e; simp; exact .inr h0
    · rw [beqF e]; exact h1.get s

theorem cut_hfz {h h' : List Blk} (hr : HRel ι h w) : ∀ b, (!liveB h' b) = true → ∀ c o s, ι b = some (c, o, s) → ¬ (ι.cut h').M c := by
  intro b hb c o s hbc hM
  rcases hM with ⟨b', o', s', hb'⟩ | hX
  · obtain ⟨h1, h2⟩ := Inj.cut_some hb'
    have := hr.inj b b' _ _ _ _ _ hbc h1
    subst this
    rw [h2] at hb; cases hb
  · exact hr.dis _ _ _ _ hbc hX

theorem cut_hkp {h' : List Blk} : ∀ b, liveB h' b = true → ∀ p, ι b = some p → (ι.cut h') b = some p := fun b hb p hp => by rw [Inj.cut_live hb]; exact hp

theorem BLe.sound {h h' : List Blk} (hr : HRel ι h w) {b : Nat} (hb : BLe h (fun b => !liveB h' b) (fun b => liveB h' b) (nth .dead h b) (nth .dead h' b)) :
    RB w (ι.cut h') ((ι.cut h') b) (nth .dead h' b) := by
  have h0 := hr.blk b
  have sound : ∀ {x y : AV} {v : Value}, RA w ι x v → KLe h (fun b => !liveB h' b) (fun b => liveB h' b) x y → RA w (ι.cut h') y v := fun hx hk =>
    KLe.sound hr (cut_hfz hr) cut_hkp (fun c => Inj.cut_M) hx hk
  have hL : Later ι.M w w (ι.cut h').M := ⟨fun _ _ _ h => h, fun c hc => .inl (Inj.cut_M hc), Nat.le_refl _⟩
  generalize hx : nth .dead h b = x at hb h0
  generalize hy : nth .dead h' b = y at hb
  cases hb with
  | dead =>
    show _ = none
    have : liveB h' b = false := liveB_false.2 hy
    simp [Inj.cut, this]
  | mx hl =>
    have : liveB h' b = true := liveB_iff.2 (by rw [hy]; simp)
    rw [Inj.cut_live this]
    obtain ⟨c, o, s, cs, ty, fz, h1, h2, h3, h4, h5, h6⟩ := h0
    obtain ⟨g1, g2⟩ := hl.get
    refine ⟨c, o, s, cs, ty, fz, h1, h2, h3, h4, by rw [← g1]; exact h5, fun j y hy => ?_⟩
    obtain ⟨x, hx, hk⟩ := g2 j y hy
    obtain ⟨v, v1, v2, v3⟩ := h6 j x hx
    exact ⟨v, v1, v2, sound v3 hk⟩
  | pr hl =>
    have : liveB h' b = true := liveB_iff.2 (by rw [hy]; simp)
    rw [Inj.cut_live this]
    have hlen := hl.len
    rcases h0 with ⟨h1, h2⟩ | ⟨c, o, s, cs, ty, fz, h1, h2, h3, h4, h5, h6, h7⟩
    · refine .inl ⟨h1, ?_⟩
      subst h2
      exact List.eq_nil_of_length_eq_zero (by simpa using hlen.symm)
    · refine .inr ⟨c, o, s, cs, ty, fz, h1, h2, h3, h4, by rw [← hlen]; exact h5, fun i row hi => ?_, fun i row j x hi hx => ?_⟩
      · obtain ⟨r0, hr0, hle⟩ := hl.get i row hi
        rw [← hle.len]; exact h6 i r0 hr0
      · obtain ⟨r0, hr0, hle⟩ := hl.get i row hi
        obtain ⟨x0, hx0, hlx⟩ := hle.get j x hx
        obtain ⟨o1, v, hv, hp⟩ := h7 i r0 j x0 hr0 hx0
        exact ⟨hlx.one o1, v, hv, (hlx.sound hp).later hL⟩

theorem fixOk_spec {fx : Nat → Bool} {h : List Blk} : ∀ {k : Nat}, fixOk fx h k = true → ∀ b, b < k → fx b = true → liveB h b = true
  | 0, _, b, hb, _ => by omega
  | k + 1, hf, b, hb, hx => by
    simp only [fixOk, Bool.and_eq_true, Bool.or_eq_true, Bool.not_eq_true'] at hf
    by_cases e : b = k
    · subst e
      rcases hf.1 with h | h
      · rw [h] at hx; cases hx
      · unfold liveB; exact h
    · exact fixOk_spec hf.2 b (by omega) hx

theorem HRel.cut {h h' : List Blk} (hr : HRel ι h w) (hle : HLe h (fun b => !liveB h' b) (fun b => liveB h' b) h h') : HRel (ι.cut h') h' w :=
  ⟨fun b => BLe.sound hr (hle.get b), fun b b' c o s o' s' h1 h2 => hr.inj b b' c o s o' s' (Inj.cut_some h1).1 (Inj.cut_some h2).1,
    fun b c o s h1 => hr.dis b c o s (Inj.cut_some h1).1⟩

theorem Mem.cut {h h' : List Blk} (hm : Mem cx ι h w) (hle : HLe h (fun b => !liveB h' b) (fun b => liveB h' b) h h') (hk : cx.E.k ≤ h'.length) (hf : fixOk cx.E.fx h' cx.E.k = true) : Mem cx (ι.cut h') h' w :=
  ⟨hm.hr.cut hle, hm.xl, hm.xe, fun c ⟨b, o, s, hb⟩ => hm.ow c ⟨b, o, s, (Inj.cut_some hb).1⟩, hm.fr, hm.gr, hm.os,
    fun b hb => by rw [Inj.cut_live (fixOk_spec hf b (cx.fk b hb) hb)]; exact hm.fx b hb, hk⟩

theorem Rel.mono (hr : Rel cx ι st a w) (h : StLe cx.E st st') : ∃ ι', Rel cx ι' st' a w := by
  obtain ⟨⟨hk, hf⟩, ht, hh⟩ := h
  refine ⟨ι.cut st'.heap, hr.mem.cut hh (by simpa using hk) hf, fun s => ?_, hr.sz, hr.df⟩
  rcases ht.get s with h | h
  · rw [h]; exact .und _
  · exact KLe.sound hr.mem.hr (cut_hfz hr.mem.hr) cut_hkp (fun c => Inj.cut_M) (hr.tm s) h

theorem lk_trim (live : List Nat) (t : List (Nat × AV)) (s : Nat) : lk (live.map fun s => (s, lk t s)) s = .undef ∨ lk (live.map fun s => (s, lk t s)) s = lk t s := by
  induction live with
  | nil => exact .inl rfl
  | cons x r ih =>
    simp only [List.map_cons, lk]
    by_cases e : x = s
    · subst e; simp
    · rw [beqF e]; exact ih

theorem Rel.trim (hr : Rel cx ι st a w) (live : List Nat) : Rel cx ι (Hk.trim live st) a w :=
  ⟨hr.mem, fun s => by
    rcases lk_trim live st.tmps s with h | h
    · simp only [Hk.trim, h]; exact .und _
    · simp only [Hk.trim, h]; exact hr.tm s, hr.sz, hr.df⟩

theorem lk_setT (t : List (Nat × AV)) (n : Nat) (x : AV) (s : Nat) : lk (setT t n x) s = lk t s ∨ (s = n ∧ lk (setT t n x) s = x) := by
  induction t with
  | nil => exact .inl rfl
  | cons p r ih =>
    obtain ⟨k, v⟩ := p
    simp only [setT]
    by_cases e : k = n
    · subst e
      simp only [Nat.beq_refl, cond_true, lk]
      by_cases e2 : k = s
      · subst e2; simp
      · rw [beqF e2]; exact .inl rfl
    · rw [beqF e]
      simp only [cond_false, lk]
      by_cases e2 : k = s
      · subst e2; simp
      · rw [beqF e2]; exact ih

theorem matV_cases (n wd : Nat) (x : AV) : (∃ w0, x = .p (.isl w0 [] (some 0)) ∧ matV n wd x = (.sl n wd 0 0 none, [.pr wd []])) ∨ matV n wd x = (x, []) := by
  unfold matV
  split
  · rename_i w0; exact .inl ⟨w0, rfl, rfl⟩
  · exact .inr rfl

theorem RA.mat {w0 n wd : Nat} {v : Value} (h : RA w ι (.p (.isl w0 [] (some 0))) v) : RA w ι (.sl n wd 0 0 none) v := by
  obtain ⟨oa, c0, hv, hc, hcap, _⟩ := RP_isl (RA_p h)
  have hc0 : c0 = 0 := hcap 0 rfl
  subst hc0
  rw [hv]
  exact .slz (fun k hk => by cases hk)

theorem Mem.more {h : List Blk} (hm : Mem cx ι h w) (wd : Nat) : Mem cx ι (h ++ [.pr wd []]) w := by
  refine ⟨⟨fun b => ?_, hm.hr.inj, hm.hr.dis⟩, hm.xl, hm.xe, hm.ow, hm.fr, hm.gr, hm.os, hm.fx, by have := hm.kl; simp; omega⟩
  rw [nth_append_new]
  split
  · rename_i e
    have := hm.hr.blk b
    rw [nth_lt _ _ _ (by omega)] at this
    exact .inl ⟨this, rfl⟩
  · exact hm.hr.blk b

theorem Rel.mat1 (hr : Rel cx ι st a w) (m : MatAt) : Rel cx ι (st.mat1 m) a w := by
  cases m with
  | slot s wd =>
    simp only [St.mat1]
    rcases matV_cases st.heap.length wd (lk st.tmps s) with ⟨w0, hx, he⟩ | he
    · rw [he]
      refine ⟨hr.mem.more wd, fun s' => ?_, hr.sz, hr.df⟩
      rcases lk_setT st.tmps s (.sl st.heap.length wd 0 0 none) s' with h | ⟨h1, h2⟩
      · simp only [h]; exact hr.tm s'
      · subst h1
        simp only [h2]
        have := hr.tm s'
        rw [hx] at this
        exact this.mat
    · rw [he]
      refine ⟨by simpa using hr.mem, fun s' => ?_, hr.sz, hr.df⟩
      rcases lk_setT st.tmps s (lk st.tmps s) s' with h | ⟨h1, h2⟩
      · simp only [h]; exact hr.tm s'
      · subst h1
        simp only [h2]; exact hr.tm s'
  | cell b j wd =>
    simp only [St.mat1]
    split
    · rename_i cells hb
      have hlt : b < st.heap.length := hr.mem.hr.blen (by rw [hb]; simp)
      -- a heap with one cell turned
      have turn : ∀ x, (∀ v, RA w ι (nth .undef cells j) v → RA w ι x v) → Mem cx ι (setNth st.heap b (.mx (setNth cells j x))) w := by
        intro x hx
        refine ⟨⟨fun b' => ?_, hr.mem.hr.inj, hr.mem.hr.dis⟩, hr.mem.xl, hr.mem.xe, hr.mem.ow, hr.mem.fr, hr.mem.gr, hr.mem.os, hr.mem.fx, by rw [setNth_eq]; simpa using hr.mem.kl⟩
        rw [nth_setNth _ _ _ _ _ hlt]
        have h0 := hr.mem.hr.blk b'
        split
        · rename_i e
          subst e
          rw [hb] at h0
          obtain ⟨c, o, s, cs, ty, fz, h1, h2, h3, h4, h5, h6⟩ := h0
          refine ⟨c, o, s, cs, ty, fz, h1, h2, h3, h4, by rw [setNth_eq]; simpa using h5, fun i y hy => ?_⟩
          rw [setNth_eq, List.getElem?_set] at hy
          split at hy
          · rename_i e
            subst e
            split at hy
            · rename_i hlt2
              cases hy
              obtain ⟨v, v1, v2, v3⟩ := h6 j _ (List.getElem?_eq_getElem hlt2)
              refine ⟨v, v1, v2, hx v ?_⟩
              rw [nth_eq, List.getElem?_eq_getElem hlt2]; exact v3
            · cases hy
          · exact h6 i y hy
        · exact h0
      rcases matV_cases st.heap.length wd (nth .undef cells j) with ⟨w0, hx, he⟩ | he
      · rw [he]
        have hm := (turn (.sl st.heap.length wd 0 0 none) (fun v hv => by rw [hx] at hv; exact hv.mat)).more wd
        exact ⟨hm, hr.tm, hr.sz, hr.df⟩
      · rw [he]
        refine ⟨by simpa using turn (nth .undef cells j) (fun v hv => hv), hr.tm, hr.sz, hr.df⟩
    · exact hr

theorem Rel.mat (hr : Rel cx ι st a w) (ms : List MatAt) : Rel cx ι (st.mat ms) a w := by
  induction ms generalizing st with
  | nil => exact hr
  | cons m r ih => exact ih (hr.mat1 m)

end
end Hk
