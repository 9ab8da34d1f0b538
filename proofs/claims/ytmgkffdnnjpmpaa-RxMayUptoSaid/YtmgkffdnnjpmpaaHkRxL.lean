/- The plain laws of trees' facts. -/
import Derived.Test.YtmgkffdnnjpmpaaHkRxK
namespace Hk
open Go
set_option linter.unusedVariables false
set_option linter.unusedSimpArgs false

theorem any_same {α : Type} {p q : α → Bool} : ∀ {l : List α}, (∀ x ∈ l, p x = q x) → l.any p = l.any q
  | [], _ => rfl
  | x :: r, h => by rw [List.any_cons, List.any_cons, h x (List.mem_cons_self ..), any_same fun y hy => h y (List.mem_cons_of_mem _ hy)]
theorem all_same {α : Type} {p q : α → Bool} : ∀ {l : List α}, (∀ x ∈ l, p x = q x) → l.all p = l.all q
  | [], _ => rfl
  | x :: r, h => by rw [List.all_cons, List.all_cons, h x (List.mem_cons_self ..), all_same fun y hy => h y (List.mem_cons_of_mem _ hy)]

/-- What holds of facts: of no text, nothing begins. -/
def Facts.Good (f : Facts) : Prop := f.void = true → f.empty = false ∧ (∀ b, f.first.has b = false) ∧ ∀ b, f.last.has b = false

theorem Facts.then_void (f g : Facts) : (f.then' g).void = (f.void || g.void) := by
  unfold Facts.then'
  cases hf : f.void <;> cases hg : g.void <;> simp [Facts.bad]

theorem Facts.then_good (f g : Facts) : (f.then' g).Good := by
  unfold Facts.then' Facts.Good
  split
  · intro _; exact ⟨rfl, Set4.has_nil, Set4.has_nil⟩
  · intro h; cases h

theorem Facts.then_empty {f g : Facts} (hf : f.Good) (hg : g.Good) : (f.then' g).empty = (f.empty && g.empty) := by
  unfold Facts.then'
  cases h1 : f.void
  · cases h2 : g.void
    · simp
    · rw [(hg h2).1]; simp [Facts.bad]
  · rw [(hf h1).1]; simp [Facts.bad]

theorem Facts.or_good {f g : Facts} (hf : f.Good) (hg : g.Good) : (f.or' g).Good := by
  intro h
  have h' : (f.void && g.void) = true := h
  rw [Bool.and_eq_true] at h'
  obtain ⟨a1, a2, a3⟩ := hf h'.1
  obtain ⟨b1, b2, b3⟩ := hg h'.2
  refine ⟨?_, fun b => ?_, fun b => ?_⟩
  · show (f.empty || g.empty) = false; rw [a1, b1]; rfl
  · show (f.first.or g.first).has b = false; rw [Set4.has_or, a2, b2]; rfl
  · show (f.last.or g.last).has b = false; rw [Set4.has_or, a3, b3]; rfl

theorem thens (l : List Facts) : ∀ f : Facts, f.Good → (∀ g ∈ l, g.Good) →
    (l.foldl Facts.then' f).Good ∧ (l.foldl Facts.then' f).void = (f.void || l.any Facts.void) ∧ (l.foldl Facts.then' f).empty = (f.empty && l.all Facts.empty) := by
  induction l with
  | nil => intro f hf _; simp [hf]
  | cons g r ih =>
    intro f hf hl
    obtain ⟨h1, h2, h3⟩ := ih (f.then' g) (Facts.then_good f g) fun x hx => hl x (List.mem_cons_of_mem _ hx)
    rw [List.foldl_cons]
    refine ⟨h1, ?_, ?_⟩
    · rw [h2, Facts.then_void, List.any_cons, Bool.or_assoc]
    · rw [h3, Facts.then_empty hf (hl g (List.mem_cons_self ..)), List.all_cons, Bool.and_assoc]

theorem ors (l : List Facts) : ∀ f : Facts, f.Good → (∀ g ∈ l, g.Good) →
    (l.foldl Facts.or' f).Good ∧ (l.foldl Facts.or' f).void = (f.void && l.all Facts.void) ∧ (l.foldl Facts.or' f).empty = (f.empty || l.any Facts.empty) ∧
      (∀ b, (l.foldl Facts.or' f).first.has b = (f.first.has b || l.any fun g => g.first.has b)) ∧ (∀ b, (l.foldl Facts.or' f).last.has b = (f.last.has b || l.any fun g => g.last.has b)) := by
  induction l with
  | nil => intro f hf _; simp [hf]
  | cons g r ih =>
    intro f hf hl
    obtain ⟨h1, h2, h3, h4, h5⟩ := ih (f.or' g) (Facts.or_good hf (hl g (List.mem_cons_self ..))) fun x hx => hl x (List.mem_cons_of_mem _ hx)
    rw [List.foldl_cons]
    refine ⟨h1, ?_, ?_, fun b => ?_, fun b => ?_⟩
    · rw [h2, List.all_cons, ← Bool.and_assoc]; rfl
    · rw [h3, List.any_cons, ← Bool.or_assoc]; rfl
    · rw [h4, List.any_cons, ← Bool.or_assoc]
      show ((f.first.or g.first).has b || _) = _
      rw [Set4.has_or]
    · rw [h5, List.any_cons, ← Bool.or_assoc]
      show ((f.last.or g.last).has b || _) = _
      rw [Set4.has_or]

theorem rep_good {f : Facts} (hf : f.Good) {lo hi : Int} (h0 : 0 ≤ lo) : (f.rep lo hi).Good := by
  unfold Facts.rep
  split
  · intro h; cases h
  split
  · intro h
    have h' : decide (0 < lo) = true := h
    have := of_decide_eq_true h'
    exact ⟨decide_eq_false (by omega), Set4.has_nil, Set4.has_nil⟩
  · rename_i h1 h2
    intro h
    exact absurd h h2

theorem facts_good (T : Tr) (hok : T.ok = true) : T.facts.Good ∧ T.facts.void = T.void := by
  induction T using Tr.ind' with | h k s sub lo hi ih => ?_
  have hk := ok_kinds hok
  have hsub : ∀ t ∈ sub, t.facts.Good ∧ t.facts.void = t.void := fun t ht => ih t ht (ok_sub hok ht)
  rw [Tr.void_mk]
  by_cases k0 : k = 0
  · subst k0
    rw [Tr.facts0]
    exact ⟨fun h => (by cases h), rfl⟩
  by_cases k1 : k = 1
  · subst k1
    rw [Tr.facts1]
    refine ⟨fun h => ?_, rfl⟩
    have h : decide (s = .nil) = true := h
    rw [of_decide_eq_true h]
    exact ⟨rfl, Set4.has_nil, Set4.has_nil⟩
  by_cases k2 : k = 2
  · subst k2
    rw [Tr.facts2]
    have h1 : 2 ≤ sub.length := by omega
    match sub, h1 with
    | t :: r, _ =>
      obtain ⟨h1, h2, h3⟩ := thens (r.map Tr.facts) t.facts (hsub t (by simp)).1 fun g hg => by
        obtain ⟨x, hx, rfl⟩ := List.mem_map.1 hg
        exact (hsub x (List.mem_cons_of_mem _ hx)).1
      refine ⟨h1, h2.trans ?_⟩
      rw [if_neg (by decide), if_neg (by decide), if_pos rfl, List.any_cons, (hsub t (by simp)).2, List.any_map]
      congr 1
      exact any_same fun x hx => (hsub x (List.mem_cons_of_mem _ hx)).2
  by_cases k3 : k = 3
  · subst k3
    rw [Tr.facts3]
    have h1 : 2 ≤ sub.length := by omega
    match sub, h1 with
    | t :: r, _ =>
      obtain ⟨h1, h2, h3⟩ := ors (r.map Tr.facts) t.facts (hsub t (by simp)).1 fun g hg => by
        obtain ⟨x, hx, rfl⟩ := List.mem_map.1 hg
        exact (hsub x (List.mem_cons_of_mem _ hx)).1
      refine ⟨h1, h2.trans ?_⟩
      rw [if_neg (by decide), if_neg (by decide), if_neg (by decide), if_pos rfl, List.all_cons, (hsub t (by simp)).2, List.all_map]
      congr 1
      exact all_same fun x hx => (hsub x (List.mem_cons_of_mem _ hx)).2
  have k4 : k = 4 := by omega
  subst k4
  have h1 : sub.length = 1 := by omega
  have hlo : 0 ≤ lo ∧ lo ≤ 64 ∧ (hi = -1 ∨ lo ≤ hi ∧ hi ≤ 64) := by omega
  match sub, h1 with
  | [t], _ =>
    rw [Tr.facts4]
    obtain ⟨g1, g2⟩ := hsub t (by simp)
    refine ⟨rep_good g1 hlo.1, ?_⟩
    rw [if_neg (by decide), if_neg (by decide), if_neg (by decide), if_neg (by decide)]
    show (t.facts.rep lo hi).void = (decide (0 < lo) && t.void)
    rw [← g2]
    unfold Facts.rep
    split
    · rw [decide_eq_false (by omega)]; rfl
    split
    · rename_i h; rw [h]; simp
    · rename_i h; rw [Bool.not_eq_true _ |>.mp h]; simp

end Hk
