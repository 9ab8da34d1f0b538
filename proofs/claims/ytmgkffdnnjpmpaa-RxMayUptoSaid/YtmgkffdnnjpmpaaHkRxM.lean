/- The plain laws: where texts end. -/
import Derived.Test.YtmgkffdnnjpmpaaHkRxL
namespace Hk
open Go
set_option linter.unusedVariables false
set_option linter.unusedSimpArgs false

/-- A tree's own facts fit where its texts end. -/
structure Told (s : List UInt8) (F : Facts) (e : Pl → Pl) : Prop where
  zero : ∀ f, e f 0 = (f 0 && F.empty)
  ends : ∀ f j, e f j = true → F.void = false ∧ ∃ i, i ≤ j ∧ f i = true ∧ ((i = j ∧ F.empty = true) ∨
    (i < j ∧ (∃ c, s[i]? = some c ∧ F.first.has c.toNat = true) ∧ ∃ c, s[j - 1]? = some c ∧ F.last.has c.toNat = true))

theorem told_then {s : List UInt8} {F G : Facts} {e g : Pl → Pl} (hF : F.Good) (hG : G.Good) (he : Told s F e) (hg : Told s G g) : Told s (F.then' G) (fun f => g (e f)) := by
  refine ⟨fun f => ?_, fun f j h => ?_⟩
  · show g (e f) 0 = _
    rw [hg.zero, he.zero, Facts.then_empty hF hG, Bool.and_assoc]
  · obtain ⟨v2, m, hm, h1, h2⟩ := hg.ends _ _ h
    obtain ⟨v1, i, hi, h3, h4⟩ := he.ends _ _ h1
    have hv : (F.void || G.void) = false := by rw [v1, v2]; rfl
    have e1 : F.then' G = ⟨false, F.empty && G.empty, if F.empty then F.first.or G.first else F.first, if G.empty then G.last.or F.last else G.last⟩ := by
      unfold Facts.then'; rw [hv]; rfl
    refine ⟨by rw [Facts.then_void, hv], i, Nat.le_trans hi hm, h3, ?_⟩
    rw [e1]
    have first : ∀ c : Nat, F.first.has c = true → (if F.empty then F.first.or G.first else F.first).has c = true := fun c hc => by
      split
      · rw [Set4.has_or, hc]; rfl
      · exact hc
    have last : ∀ c : Nat, G.last.has c = true → (if G.empty then G.last.or F.last else G.last).has c = true := fun c hc => by
      split
      · rw [Set4.has_or, hc]; rfl
      · exact hc
    rcases h4 with ⟨rfl, h4⟩ | ⟨h4, ⟨c, hc, hc'⟩, ⟨d, hd, hd'⟩⟩
    · rcases h2 with ⟨rfl, h2⟩ | ⟨h2, ⟨c, hc, hc'⟩, ⟨d, hd, hd'⟩⟩
      · exact .inl ⟨rfl, by rw [h4, h2]; rfl⟩
      · refine .inr ⟨h2, ⟨c, hc, ?_⟩, d, hd, last _ hd'⟩
        rw [if_pos h4, Set4.has_or, hc', Bool.or_true]
    · rcases h2 with ⟨rfl, h2⟩ | ⟨h2, _, ⟨d', hd1, hd2⟩⟩
      · refine .inr ⟨h4, ⟨c, hc, first _ hc'⟩, d, hd, ?_⟩
        rw [if_pos h2, Set4.has_or, hd', Bool.or_true]
      · exact .inr ⟨by omega, ⟨c, hc, first _ hc'⟩, d', hd1, last _ hd2⟩

theorem told_thens {s : List UInt8} : ∀ (l : List (Facts × (Pl → Pl))) (F : Facts) (e : Pl → Pl), F.Good → Told s F e → (∀ x ∈ l, x.1.Good ∧ Told s x.1 x.2) →
    Told s ((l.map Prod.fst).foldl Facts.then' F) (fun f => (l.map Prod.snd).foldl (fun f e => e f) (e f))
  | [], F, e, hF, he, _ => he
  | x :: r, F, e, hF, he, hl => by
    obtain ⟨h1, h2⟩ := hl x (List.mem_cons_self ..)
    have := told_thens r (F.then' x.1) (fun f => x.2 (e f)) (Facts.then_good _ _) (told_then hF h1 he h2) fun y hy => hl y (List.mem_cons_of_mem _ hy)
    simpa only [List.map_cons, List.foldl_cons] using this

theorem told_or {s : List UInt8} {F G : Facts} {e g : Pl → Pl} (he : Told s F e) (hg : Told s G g) : Told s (F.or' G) (fun f j => e f j || g f j) := by
  refine ⟨fun f => ?_, fun f j h => ?_⟩
  · show (e f 0 || g f 0) = (f 0 && (F.empty || G.empty))
    rw [he.zero, hg.zero, Bool.and_or_distrib_left]
  · have h : (e f j || g f j) = true := h
    rw [Bool.or_eq_true] at h
    rcases h with h | h
    · obtain ⟨v, i, h1, h2, h3⟩ := he.ends _ _ h
      refine ⟨?_, i, h1, h2, ?_⟩
      · show (F.void && G.void) = false; rw [v]; rfl
      · rcases h3 with ⟨h3, h4⟩ | ⟨h3, ⟨c, hc, hc'⟩, ⟨d, hd, hd'⟩⟩
        · refine .inl ⟨h3, ?_⟩
          show (F.empty || G.empty) = true; rw [h4]; rfl
        · refine .inr ⟨h3, ⟨c, hc, ?_⟩, d, hd, ?_⟩
          · show (F.first.or G.first).has _ = true; rw [Set4.has_or, hc']; rfl
          · show (F.last.or G.last).has _ = true; rw [Set4.has_or, hd']; rfl
    · obtain ⟨v, i, h1, h2, h3⟩ := hg.ends _ _ h
      refine ⟨?_, i, h1, h2, ?_⟩
      · show (F.void && G.void) = false; rw [v, Bool.and_false]
      · rcases h3 with ⟨h3, h4⟩ | ⟨h3, ⟨c, hc, hc'⟩, ⟨d, hd, hd'⟩⟩
        · refine .inl ⟨h3, ?_⟩
          show (F.empty || G.empty) = true; rw [h4, Bool.or_true]
        · refine .inr ⟨h3, ⟨c, hc, ?_⟩, d, hd, ?_⟩
          · show (F.first.or G.first).has _ = true; rw [Set4.has_or, hc', Bool.or_true]
          · show (F.last.or G.last).has _ = true; rw [Set4.has_or, hd', Bool.or_true]

theorem told_ors {s : List UInt8} : ∀ (l : List (Facts × (Pl → Pl))) (F : Facts) (e : Pl → Pl), Told s F e → (∀ x ∈ l, Told s x.1 x.2) →
    Told s ((l.map Prod.fst).foldl Facts.or' F) (fun f j => e f j || l.any fun x => x.2 f j)
  | [], F, e, he, _ => by
    have h : (fun f j => e f j || ([] : List (Facts × (Pl → Pl))).any fun x => x.2 f j) = e := by funext f j; simp
    rw [h]; exact he
  | x :: r, F, e, he, hl => by
    have := told_ors r (F.or' x.1) (fun f j => e f j || x.2 f j) (told_or he (hl x (List.mem_cons_self ..))) fun y hy => hl y (List.mem_cons_of_mem _ hy)
    have h : (fun f j => e f j || (x :: r).any fun x => x.2 f j) = fun f j => (e f j || x.2 f j) || r.any fun x => x.2 f j := by
      funext f j; rw [List.any_cons, Bool.or_assoc]
    rw [h]
    exact this

theorem iter_zero {e : Pl → Pl} {E : Bool} (h : ∀ f, e f 0 = (f 0 && E)) (f : Pl) : ∀ n, iter e n f 0 = (f 0 && (decide (n = 0) || E))
  | 0 => by simp [iter]
  | n + 1 => by
    show e (iter e n f) 0 = _
    rw [h, iter_zero h f n, decide_eq_false (Nat.succ_ne_zero n)]
    cases f 0 <;> cases E <;> simp

theorem iter_ends {s : List UInt8} {F : Facts} {e : Pl → Pl} (he : Told s F e) (f : Pl) : ∀ n j, iter e n f j = true → (n = 0 ∨ F.void = false) ∧ ∃ i, i ≤ j ∧ f i = true ∧
    ((i = j ∧ (n = 0 ∨ F.empty = true)) ∨ (0 < n ∧ i < j ∧ (∃ c, s[i]? = some c ∧ F.first.has c.toNat = true) ∧ ∃ c, s[j - 1]? = some c ∧ F.last.has c.toNat = true))
  | 0, j, h => ⟨.inl rfl, j, Nat.le_refl _, h, .inl ⟨rfl, .inl rfl⟩⟩
  | n + 1, j, h => by
    obtain ⟨v, m, hm, h1, h2⟩ := he.ends _ _ h
    obtain ⟨_, i, hi, h3, h4⟩ := iter_ends he f n m h1
    refine ⟨.inr v, i, Nat.le_trans hi hm, h3, ?_⟩
    rcases h2 with ⟨rfl, h2⟩ | ⟨h2, hc, hd⟩
    · rcases h4 with ⟨h4, _⟩ | ⟨_, h4⟩
      · exact .inl ⟨h4, .inr h2⟩
      · exact .inr ⟨Nat.succ_pos _, h4⟩
    · rcases h4 with ⟨rfl, _⟩ | ⟨_, h4, hc', _⟩
      · exact .inr ⟨Nat.succ_pos _, h2, hc, hd⟩
      · exact .inr ⟨Nat.succ_pos _, by omega, hc', hd⟩

theorem told_rep {s : List UInt8} {F : Facts} {e : Pl → Pl} (hF : F.Good) (he : Told s F e) {lo hi : Int} (h0 : 0 ≤ lo) (h1 : hi = -1 ∨ lo ≤ hi) :
    Told s (F.rep lo hi) (repE e lo.toNat (most s lo hi).toNat) := by
  have hM : lo.toNat ≤ (most s lo hi).toNat := by unfold most; split <;> omega
  refine ⟨fun f => ?_, fun f j h => ?_⟩
  · have hz : repE e lo.toNat (most s lo hi).toNat f 0 = (List.range ((most s lo hi).toNat + 1)).any fun n => decide (lo.toNat ≤ n) && (f 0 && (decide (n = 0) || F.empty)) := by
      unfold repE
      exact any_same fun n _ => by rw [iter_zero he.zero]
    rw [hz]
    cases hf : f 0
    · simp
    · simp only [Bool.true_and]
      have key : ((List.range ((most s lo hi).toNat + 1)).any fun n => decide (lo.toNat ≤ n) && (decide (n = 0) || F.empty)) = (decide (lo = 0) || F.empty) := by
        rw [Bool.eq_iff_iff, List.any_eq_true]
        constructor
        · rintro ⟨n, hn, h⟩
          simp only [Bool.and_eq_true, Bool.or_eq_true, decide_eq_true_iff] at h ⊢
          rcases h with ⟨h2, h3 | h3⟩
          · exact .inl (by omega)
          · exact .inr h3
        · intro h
          simp only [Bool.or_eq_true, decide_eq_true_iff] at h
          rcases h with h | h
          · exact ⟨0, by simp, by simp; omega⟩
          · exact ⟨lo.toNat, by simp; omega, by simp [h]⟩
      rw [key]
      unfold Facts.rep
      split
      · rw [decide_eq_true (by omega : lo = 0)]; rfl
      split
      · rename_i hv; rw [(hF hv).1, Bool.or_false]
      · rw [Bool.or_comm]
  · unfold repE at h
    obtain ⟨n, hn, h⟩ := List.any_eq_true.1 h
    rw [Bool.and_eq_true, decide_eq_true_iff] at h
    obtain ⟨hln, h⟩ := h
    have hnM : n ≤ (most s lo hi).toNat := by simpa [Nat.lt_succ_iff] using hn
    obtain ⟨v, i, hi', h2, h3⟩ := iter_ends he f n j h
    by_cases hh : hi = 0
    · have hM0 : (most s lo hi).toNat = 0 := by unfold most; rw [if_neg (by omega), hh]; rfl
      have e1 : F.rep lo hi = ⟨false, true, .nil, .nil⟩ := by unfold Facts.rep; rw [if_pos hh]
      rw [e1]
      refine ⟨rfl, i, hi', h2, ?_⟩
      rcases h3 with ⟨h3, _⟩ | ⟨h3, _⟩
      · exact .inl ⟨h3, rfl⟩
      · omega
    cases hv : F.void
    · have e1 : F.rep lo hi = ⟨false, F.empty || decide (lo = 0), F.first, F.last⟩ := by unfold Facts.rep; rw [if_neg hh, hv]; rfl
      rw [e1]
      refine ⟨rfl, i, hi', h2, ?_⟩
      rcases h3 with ⟨h3, h4⟩ | ⟨h3, h4⟩
      · refine .inl ⟨h3, ?_⟩
        rcases h4 with h4 | h4
        · rw [decide_eq_true (by omega : lo = 0), Bool.or_true]
        · rw [h4]; rfl
      · exact .inr h4
    · have e1 : F.rep lo hi = ⟨decide (0 < lo), decide (lo = 0), .nil, .nil⟩ := by unfold Facts.rep; rw [if_neg hh, if_pos hv]
      rw [e1]
      have hn0 : n = 0 := by
        rcases v with v | v
        · exact v
        · rw [hv] at v; cases v
      refine ⟨decide_eq_false (by omega), i, hi', h2, ?_⟩
      rcases h3 with ⟨h3, _⟩ | ⟨h3, _⟩
      · exact .inl ⟨h3, decide_eq_true (by omega)⟩
      · omega

theorem tr_told (s : List UInt8) (T : Tr) (hok : T.ok = true) : Told s T.facts (T.ends s) := by
  induction T using Tr.ind' with | h k set sub lo hi ih => ?_
  have hk := ok_kinds hok
  have hsub : ∀ t ∈ sub, Told s t.facts (t.ends s) := fun t ht => ih t ht (ok_sub hok ht)
  have hgood : ∀ t ∈ sub, t.facts.Good := fun t ht => (facts_good t (ok_sub hok ht)).1
  by_cases k0 : k = 0
  · subst k0
    rw [Tr.facts0, Tr.ends0]
    exact ⟨fun f => (Bool.and_true _).symm, fun f j h => ⟨rfl, j, Nat.le_refl _, h, .inl ⟨rfl, rfl⟩⟩⟩
  by_cases k1 : k = 1
  · subst k1
    rw [Tr.facts1, Tr.ends1]
    refine ⟨fun f => (Bool.and_false _).symm, fun f j h => ?_⟩
    match j, h with
    | i + 1, h =>
      have h : (f i && (match s[i]? with | some c => set.has c.toNat | none => false)) = true := h
      rw [Bool.and_eq_true] at h
      obtain ⟨h1, h2⟩ := h
      cases hc : s[i]? with
      | none => rw [hc] at h2; cases h2
      | some c =>
        rw [hc] at h2
        have h2 : set.has c.toNat = true := h2
        refine ⟨decide_eq_false fun e => ?_, i, Nat.le_succ _, h1, .inr ⟨Nat.lt_succ_self _, ⟨c, hc, h2⟩, c, by rw [Nat.add_sub_cancel]; exact hc, h2⟩⟩
        rw [e, Set4.has_nil] at h2
        cases h2
  by_cases k2 : k = 2
  · subst k2
    rw [Tr.facts2, Tr.ends2]
    have h1 : 2 ≤ sub.length := by omega
    match sub, h1 with
    | t :: r, _ =>
      have := told_thens (s := s) (r.map fun t => (t.facts, t.ends s)) t.facts (t.ends s) (hgood t (by simp)) (hsub t (by simp)) fun x hx => by
        obtain ⟨y, hy, rfl⟩ := List.mem_map.1 hx
        exact ⟨hgood y (List.mem_cons_of_mem _ hy), hsub y (List.mem_cons_of_mem _ hy)⟩
      simp only [List.map_map] at this
      exact this
  by_cases k3 : k = 3
  · subst k3
    rw [Tr.facts3, Tr.ends3]
    have h1 : 2 ≤ sub.length := by omega
    match sub, h1 with
    | t :: r, _ =>
      have := told_ors (s := s) (r.map fun t => (t.facts, t.ends s)) t.facts (t.ends s) (hsub t (by simp)) fun x hx => by
        obtain ⟨y, hy, rfl⟩ := List.mem_map.1 hx
        exact hsub y (List.mem_cons_of_mem _ hy)
      simp only [List.map_map, List.any_map] at this
      exact this
  have k4 : k = 4 := by omega
  subst k4
  have h1 : sub.length = 1 := by omega
  have hlo : 0 ≤ lo ∧ lo ≤ 64 ∧ (hi = -1 ∨ lo ≤ hi ∧ hi ≤ 64) := by omega
  match sub, h1 with
  | [t], _ =>
    rw [Tr.facts4, Tr.ends4]
    exact told_rep (hgood t (by simp)) (hsub t (by simp)) hlo.1 (by omega)

theorem takes_nil (T : Tr) (hok : T.ok = true) : T.takes [] = T.facts.empty := by
  unfold Tr.takes
  rw [List.length_nil, (tr_told [] T hok).zero]
  rfl

/-! ### Trees that are not slow are small -/

theorem wend_ge (k hi : Int) (n : Nat) (h : n ≤ 1000000) : n ≤ Tr.wend k hi n := by
  unfold Tr.wend
  dsimp only
  have h3 : k = 4 ∧ 1 < hi ∧ hi ≤ 64 → n ≤ n * hi.toNat := fun h => Nat.le_mul_of_pos_right n (by omega)
  by_cases c1 : k = 4 ∧ 1 < hi ∧ hi ≤ 64
  · have := h3 c1
    rw [if_pos c1, if_neg (by omega)]
    omega
  · rw [if_neg c1]
    split <;> omega

theorem wfold_ge : ∀ (l : List Nat) (z : Nat), min (z + l.sum) 1000000 ≤ l.foldl Tr.wstep (min z 1000000)
  | [], z => by simp
  | x :: r, z => by
    rw [List.foldl_cons, List.sum_cons]
    have := wfold_ge r (z + x)
    have e : Tr.wstep (min z 1000000) x = min (z + x) 1000000 := by unfold Tr.wstep; omega
    rw [e]
    refine Nat.le_trans ?_ this
    omega

theorem nodes_le_weight (T : Tr) : min T.nodes 1000000 ≤ T.weight := by
  induction T using Tr.ind' with | h k s sub lo hi ih => ?_
  rw [Tr.weight_mk, Tr.nodes_mk]
  have h1 := wfold_le (sub.map Tr.weight) 1 (by omega)
  refine Nat.le_trans ?_ (wend_ge k hi _ h1)
  have h2 := wfold_ge (sub.map Tr.weight) 1
  rw [show min 1 1000000 = 1 from rfl] at h2
  refine Nat.le_trans ?_ h2
  have : ∀ l : List Tr, (∀ t ∈ l, min t.nodes 1000000 ≤ t.weight) → min (l.map Tr.nodes).sum 1000000 ≤ (l.map Tr.weight).sum := fun l => by
    induction l with
    | nil => intro _; simp
    | cons x r ih =>
      intro h
      have h1 := h x (List.mem_cons_self ..)
      have h2 := ih fun t ht => h t (List.mem_cons_of_mem _ ht)
      simp only [List.map_cons, List.sum_cons]
      omega
  have := this sub ih
  omega

theorem small_of {T : Tr} (h : T.slow = false) : T.nodes ≤ 20000 := by
  unfold Tr.slow at h
  rw [Bool.or_eq_false_iff] at h
  have h1 := of_decide_eq_false h.2
  have h2 := nodes_le_weight T
  omega

end Hk
