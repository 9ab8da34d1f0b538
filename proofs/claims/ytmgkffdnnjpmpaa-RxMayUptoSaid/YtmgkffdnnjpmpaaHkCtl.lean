/- Hk: control. -/
import Derived.Test.YtmgkffdnnjpmpaaHkStle
namespace Hk
open Go
set_option linter.unusedVariables false

def ccode (P : Program) (n : Nat) : Code → List (List Nat) → Option (RC × List (List Nat))
  | .skip, L => some (.skip, L)
  | .region _ ops false, L => match cits P n ops ops.toList with
    | some l => some (.ops l, L)
    | none => none
  | .region _ ops true, L => match cdraw P n ops with
    | some t => some (.draw t, L)
    | none => none
  | .seq a b, L => match ccode P n a L with
    | some (x, L1) => match ccode P n b L1 with
      | some (y, L2) => some (.seq x y, L2)
      | none => none
    | none => none
  | .cond c a b, L => match cOpd c with
    | some c' => match ccode P n a L with
      | some (x, L1) => match ccode P n b L1 with
        | some (y, L2) => some (.cond c' x y, L2)
        | none => none
      | none => none
    | none => none
  | .block id a, L => match ccode P n a L with
    | some (x, L1) => some (.block id x, L1)
    | none => none
  | .loop a, L => match L with
    | [] => none
    | l :: L0 => match ccode P n a L0 with
      | some (x, L1) => some (.loop l x, L1)
      | none => none
  | .exit id, L => some (.exit id, L)
  | .ret, L => some (.ret, L)
  | _, _ => none

/-- What is asked of a way out of a piece of code. -/
def QK (cx : Cx) (K : Ex → St → Prop) : Go.Exit → Act → World → Prop
  | .normal, a, w => Kc cx (K .normal) a w
  | .exit id, a, w => Kc cx (K (.exit id)) a w
  | .ret, a, w => Kc cx (K .ret) a w
  | _, _, _ => False

theorem least {p : Nat → Prop} (h : ∃ n, p n) : ∃ n, p n ∧ ∀ m, p m → n ≤ m := by
  obtain ⟨n, hn⟩ := h
  induction n using Nat.strongRecOn with
  | _ n ih =>
    by_cases hm : ∃ m, m < n ∧ p m
    · obtain ⟨m, h1, h2⟩ := hm
      exact ih m h1 h2
    · refine ⟨n, hn, fun m hp => ?_⟩
      rcases Nat.lt_or_ge m n with h | h
      · exact absurd ⟨m, h, hp⟩ hm
      · exact h

open Classical in
noncomputable def leastOf (p : Nat → Prop) : Nat := if h : ∃ n, p n then choose (least h) else 0

theorem leastOf_spec {p : Nat → Prop} (h : ∃ n, p n) : p (leastOf p) ∧ ∀ m, p m → leastOf p ≤ m := by
  unfold leastOf
  rw [dif_pos h]
  exact Classical.choose_spec (least h)

section
variable {cx : Cx}

theorem awp_sound (hF : Knows cx) (hm : cx.P.follows .mixedOrders = true) : ∀ (c : Code) (L : List (List Nat)) (rc : RC) (L' : List (List Nat)), ccode cx.P cx.n c L = some (rc, L') →
    ∀ (K : Ex → St → Prop) {ι : Inj} {st : St} {a : Act} {w : World}, Rel cx ι st a w → awp cx.E rc K st → c.wp cx.P (QK cx K) a w := by
  intro c
  induction c with
  | skip =>
    intro L rc L' hc K ι st a w hr h
    cases hc
    exact wp_skip ⟨ι, st, hr, h⟩
  | region id ops draw =>
    intro L rc L' hc K ι st a w hr h
    cases draw with
    | false =>
      simp only [ccode] at hc
      split at hc
      · rename_i l hl
        cases hc
        exact wp_region_list (vops_sound hF (Q := QK cx K) (K := K .normal) (fun h => h) _ _ hl hr h)
      · cases hc
    | true =>
      simp only [ccode] at hc
      split at hc
      · rename_i t ht
        cases hc
        exact draw_sound hF hm (Q := QK cx K) (K := K .normal) (fun h => h) (fun c a w a' w' h => h.elim) ht hr h
      · cases hc
  | seq x y ihx ihy =>
    intro L rc L' hc K ι st a w hr h
    simp only [ccode] at hc
    split at hc
    · rename_i rx L1 hx
      split at hc
      · rename_i ry L2 hy
        cases hc
        refine wp_seq (Go.wp_mono (ihx _ _ _ hx _ hr h) ?_)
        intro e a' w' hq
        cases e with
        | normal => obtain ⟨ι', st', hr', h'⟩ := hq; exact ihy _ _ _ hy K hr' h'
        | exit id => exact hq
        | ret => exact hq
        | goto l => exact hq.elim
        | panic c => exact hq.elim
        | outgrown => exact hq.elim
      · cases hc
    · cases hc
  | cond c x y ihx ihy =>
    intro L rc L' hc K ι st a w hr h
    simp only [ccode] at hc
    split at hc
    · rename_i c' hcc
      split at hc
      · rename_i rx L1 hx
        split at hc
        · rename_i ry L2 hy
          cases hc
          have hv := ev_sound hr.tm hcc
          simp only [awp] at h
          unfold condK at h
          split at h
          · rename_i b hb
            rw [hb] at hv
            have hcv := RA_b hv
            have h := bk_of h
            have hset : Rel cx ι (setCond c' b st) a w := by
              cases c' with
              | t s => exact hr.dup hb
              | c x => exact hr
            cases b with
            | true => exact wp_cond_true hcv (ihx _ _ _ hx K hset h)
            | false => exact wp_cond_false hcv (ihy _ _ _ hy K hset h)
          · exact h.elim
        · cases hc
      · cases hc
    · cases hc
  | block id x ihx =>
    intro L rc L' hc K ι st a w hr h
    simp only [ccode] at hc
    split at hc
    · rename_i rx L1 hx
      cases hc
      refine wp_block (Go.wp_mono (ihx _ _ _ hx _ hr h) ?_)
      intro e a' w' hq
      cases e with
      | normal => exact hq
      | exit n =>
        obtain ⟨ι', st', hr', h'⟩ := hq
        simp only [inBlk] at h'
        by_cases e : n = id
        · subst e
          simp only [Nat.beq_refl, cond_true] at h'
          simp only [Go.Exit.inBlock, if_true]
          exact ⟨ι', st', hr', h'⟩
        · rw [beqF e] at h'
          simp only [Go.Exit.inBlock, e, if_false]
          exact ⟨ι', st', hr', h'⟩
      | ret => exact hq
      | goto l => exact hq.elim
      | panic c => exact hq.elim
      | outgrown => exact hq.elim
    · cases hc
  | loop x ihx =>
    intro L rc L' hc K ι st a w hr h
    simp only [ccode] at hc
    split at hc
    · cases hc
    · rename_i l L0
      split at hc
      · rename_i rx L1 hx
        cases hc
        simp only [awp] at h
        obtain ⟨ms, α, mk, ok, mu, ⟨x0, hx0, hle⟩, hround⟩ := h
        let p : Act → World → Nat → Prop := fun a w n => ∃ x, ok x ∧ mu x = n ∧ ∃ ι, Rel cx ι (mk x) a w
        refine wp_loop (fun a w => ∃ n, p a w n) (fun a w => leastOf (p a w)) ?_ ?_
        · obtain ⟨ι', hr'⟩ := ((hr.trim l).mat ms).mono hle
          exact ⟨_, x0, hx0, rfl, ι', hr'⟩
        · intro a w hI
          obtain ⟨⟨y, hy, hmu, ι1, hr1⟩, hmin⟩ := leastOf_spec hI
          refine Go.wp_mono (ihx _ _ _ hx _ hr1 (hround y hy)) ?_
          intro e a' w' hq
          cases e with
          | normal =>
            obtain ⟨ι', st', hr', z, hz, hlt, hle⟩ := hq
            obtain ⟨ι2, hr2⟩ := (hr'.trim l).mono hle
            have hp : p a' w' (mu z) := ⟨z, hz, rfl, ι2, hr2⟩
            refine ⟨⟨_, hp⟩, ?_⟩
            have := (leastOf_spec ⟨_, hp⟩).2 _ hp
            show leastOf (p a' w') < leastOf (p a w)
            have hmu' : mu y = leastOf (p a w) := hmu
            omega
          | exit id => exact hq
          | ret => exact hq
          | goto l => exact hq.elim
          | panic c => exact hq.elim
          | outgrown => exact hq.elim
      · cases hc
  | exit id =>
    intro L rc L' hc K ι st a w hr h
    cases hc
    exact wp_exit ⟨ι, st, hr, h⟩
  | ret =>
    intro L rc L' hc K ι st a w hr h
    cases hc
    exact wp_ret ⟨ι, st, hr, h⟩
  | _ => intro L rc L' hc; cases hc

end
end Hk
