/- Hk: regions. -/
import Derived.Test.YtmgkffdnnjpmpaaHkOrd
namespace Hk
open Go
set_option linter.unusedVariables false

def dOk (n : Nat) : Option Nat → Bool
  | none => true
  | some t => Nat.blt t n

def cG (ops : Array Oper) : Option (Nat × Bool) → Option (Option (Nat × Bool))
  | none => some none
  | some (j, b) => match (ops[j]?).bind (·.dst) with
    | some s => some (some (s, b))
    | none => none

def cit (P : Program) (n : Nat) (ops : Array Oper) (o : Oper) : Option It :=
  match cop P o, cG ops o.guard with
  | some ro, some g => if dOk n o.dst then some ⟨g, o.dst, ro⟩ else none
  | _, _ => none

def cits (P : Program) (n : Nat) (ops : Array Oper) : List Oper → Option (List It)
  | [] => some []
  | o :: r => match cit P n ops o, cits P n ops r with
    | some i, some l => some (i :: l)
    | _, _ => none

def calts (it : Nat → Option It) (al : Nat → Bool) (sub : Nat → Option DT) : List Nat → Option DT
  | [] => some .noalt
  | i :: r => match it i, sub i, calts it al sub r with
    | some x, some t, some o => some (.alt x (al i) t o)
    | _, _, _ => none

def takable (it : Nat → Option It) (ops : Array Oper) (listed : Array Bool) (i : Nat) : Bool :=
  (match it i with
  | some x => valsOnly x.o
  | none => false) && Region.free .any ops listed i

def firstN (p : Nat → Bool) : List Nat → Option Nat
  | [] => none
  | i :: r => bif p i then some i else firstN p r

def cdt (it : Nat → Option It) (ops : Array Oper) : Nat → Array Bool → Option DT
  | 0, listed => match Region.ready .any ops listed with
    | [] => some .done
    | _ => none
  | fuel + 1, listed => match Region.ready .any ops listed with
    | [] => some .done
    | i0 :: r0 => match firstN (takable it ops listed) (i0 :: r0) with
      | some i => match it i, cdt it ops fuel (listed.setIfInBounds i true) with
        | some x, some t => some (.take x t)
        | _, _ => none
      | none => calts it (alone .any ops) (fun i => cdt it ops fuel (listed.setIfInBounds i true)) (i0 :: r0)

def cItN (P : Program) (n : Nat) (ops : Array Oper) (i : Nat) : Option It := (ops[i]?).bind (cit P n ops)

def cdraw (P : Program) (n : Nat) (ops : Array Oper) : Option DT :=
  if Region.noSelect ops then cdt (cItN P n ops) ops ops.size (Array.replicate ops.size false) else none

section
variable {cx : Cx} {ι : Inj} {st : St} {a : Act} {w : World} {ops : Array Oper} {Q : Exit → Act → World → Prop}

theorem firstN_spec {p : Nat → Bool} {l : List Nat} {i : Nat} (h : firstN p l = some i) : i ∈ l ∧ p i = true := by
  induction l with
  | nil => cases h
  | cons x r ih =>
    unfold firstN at h
    cases hp : p x with
    | true => rw [hp] at h; cases h; exact ⟨by simp, hp⟩
    | false => rw [hp] at h; obtain ⟨h1, h2⟩ := ih h; exact ⟨by simp [h1], h2⟩

theorem cit_spec {P : Program} {n : Nat} {o : Oper} {it : It} (h : cit P n ops o = some it) : cop P o = some it.o ∧ cG ops o.guard = some it.g ∧ o.dst = it.d ∧ ∀ t, o.dst = some t → t < n := by
  unfold cit at h
  split at h
  · rename_i ro g h1 h2
    split at h
    · rename_i hd
      cases h
      refine ⟨h1, h2, rfl, fun t ht => ?_⟩
      rw [ht] at hd
      simpa [dOk] using hd
    · cases h
  · cases h

theorem lk_set {t : List (Nat × AV)} {s : Nat} {x : AV} (h : lk t s = x) (s' : Nat) : lk ((s, x) :: t) s' = lk t s' := by
  simp only [lk]
  by_cases e : s = s'
  · subst e; simp [h]
  · rw [beqF e]; rfl

theorem Rel.dup (hr : Rel cx ι st a w) {s : Nat} {x : AV} (h : lk st.tmps s = x) : Rel cx ι ⟨(s, x) :: st.tmps, st.heap⟩ a w :=
  ⟨hr.mem, fun s' => by rw [lk_set h]; exact hr.tm s', hr.sz, hr.df⟩

theorem RA.skip {w : World} {ι : Inj} : RA w ι (.tup []) undef := .tup rfl (fun i x h => by simp at h)

theorem guard_sound (hr : Rel cx ι st a w) {o : Oper} {g : Option (Nat × Bool)} (hg : cG ops o.guard = some g) (hd : ∀ t, o.dst = some t → t < cx.n) {k yes : St → Prop} (h : guarded g o.dst st k yes) :
    (Region.wanted o (yielded ops a.tmps) = true ∧ ∃ st', yes st' ∧ Rel cx ι st' a w) ∨
    (Region.wanted o (yielded ops a.tmps) = false ∧ ∃ st', k (st'.put o.dst (.tup [])) ∧ Rel cx ι st' a w) := by
  cases hog : o.guard with
  | none =>
    rw [hog] at hg; cases hg
    exact .inl ⟨by simp [Region.wanted, hog], st, h, hr⟩
  | some jb =>
    obtain ⟨j, b⟩ := jb
    rw [hog] at hg
    unfold cG at hg
    simp only at hg
    split at hg
    · rename_i s hs
      cases hg
      unfold guarded at h
      simp only at h
      split at h
      · rename_i c hc
        have htm := hr.tm s
        rw [hc] at htm
        have hv := RA_b htm
        have hy : yielded ops a.tmps j = some c := by
          unfold yielded
          rw [hs]
          have hlt : s < a.tmps.size := by
            rcases Nat.lt_or_ge s a.tmps.size with h' | h'
            · exact h'
            · simp [Array.getElem?_eq_none h', undef] at hv
          simp only [Option.bind_some]
          have : a.tmps[s]? = some (.bool c) := by
            simp [hlt] at hv ⊢; exact hv
          rw [this]
        have hw : Region.wanted o (yielded ops a.tmps) = (c == b) := by
          simp only [Region.wanted, hog, hy]
          cases c <;> cases b <;> rfl
        have h := bk_of h
        rw [hw]
        cases c <;> cases b
        · exact .inl ⟨rfl, _, h, hr.dup hc⟩
        · exact .inr ⟨rfl, _, h, hr.dup hc⟩
        · exact .inr ⟨rfl, _, h, hr.dup hc⟩
        · exact .inl ⟨rfl, _, h, hr.dup hc⟩
      · rename_i hc
        have htm := hr.tm s
        rw [hc] at htm
        obtain ⟨cs, hv⟩ : ∃ cs, a.tmps.getD s undef = .tuple cs := by
          generalize a.tmps.getD s undef = v at htm
          cases htm
          exact ⟨_, rfl⟩
        have hy : yielded ops a.tmps j = none := by
          unfold yielded
          rw [hs]
          simp only [Option.bind_some]
          rcases Nat.lt_or_ge s a.tmps.size with h' | h'
          · have : a.tmps[s]? = some (.tuple cs) := by
              simp [h'] at hv ⊢; exact hv
            rw [this]
          · rw [Array.getElem?_eq_none h']
        refine .inr ⟨?_, _, h, hr⟩
        simp only [Region.wanted, hog, hy]
        rfl
      · exact h.elim
    · cases hg

theorem vops_sound (hF : Knows cx) {K : St → Prop} (hK : ∀ {a w}, Kc cx K a w → Q .normal a w) : ∀ (l : List Oper) (its : List It), cits cx.P cx.n ops l = some its →
    ∀ {ι : Inj} {st : St} {a : Act} {w : World}, Rel cx ι st a w → vops cx.E its st K → wpList cx.P ops Q l a w
  | [], its, hc, ι, st, a, w, hr, h => by
    cases hc; exact hK ⟨ι, st, hr, h⟩
  | o :: r, its, hc, ι, st, a, w, hr, h => by
    unfold cits at hc
    split at hc
    · rename_i it l hit hl
      cases hc
      obtain ⟨h1, h2, h3, h4⟩ := cit_spec hit
      obtain ⟨g, d, ro⟩ := it
      subst h3
      have ih := fun {ι st a w} => vops_sound hF hK r l hl (ι := ι) (st := st) (a := a) (w := w)
      unfold vops at h
      unfold wpList
      rcases guard_sound hr h2 h4 h with ⟨hw, st', h, hr'⟩ | ⟨hw, st', h, hr'⟩
      · rw [hw, if_pos rfl]
        refine .inl (Oper.wp_mono ?_ (vro_sound hF hr' h1 h4 h))
        rintro a' w' ⟨⟨ι', st'', hr'', hk⟩, _⟩
        exact ih hr'' hk
      · rw [hw, if_neg (by simp)]
        exact ih (hr'.put h4 RA.skip) h
    · cases hc

theorem Rel.heap_eq {w' : World} (hr : Rel cx ι st a w) (hh : w'.heap = w.heap) (ho : w'.os = w.os ∧ w'.output = w.output) : Rel cx ι st a w' := by
  have hL : Later ι.M w w' ι.M := ⟨fun c o _ h => by rw [hh]; exact h, fun c h => .inl h, by rw [hh]; exact Nat.le_refl _⟩
  refine ⟨⟨⟨fun b => (hr.mem.hr.blk b).later hL (fun _ _ h => h) (fun c o s _ => by rw [hh]), hr.mem.hr.inj, hr.mem.hr.dis⟩, hr.mem.xl, hr.mem.xe, hr.mem.ow, fun c h1 h2 => ?_, ?_, ?_, hr.mem.fx, hr.mem.kl⟩,
    fun s => (hr.tm s).later hL (fun _ _ h => h), hr.sz, hr.df⟩
  · rw [hh]; exact hr.mem.fr c h1 h2
  · rw [hh]; exact hr.mem.gr
  · rw [ho.1, ho.2]; exact hr.mem.os

theorem vdt_sound (hF : Knows cx) {K : St → Prop} (hK : ∀ {a w}, Kc cx K a w → Q .normal a w) (hQ : ∀ c a w a' w', Q (.panic c) a w → Q (.panic c) a' w') (hsel : Region.noSelect ops = true) :
    ∀ (fuel : Nat) (listed : Array Bool) (t : DT), cdt (cItN cx.P cx.n ops) ops fuel listed = some t → Closed .any ops listed →
    ∀ {ι : Inj} {st : St} {a : Act} {w : World}, Rel cx ι st a w → vdt cx.E t st K → wpAnyE cx.P .any ops Q fuel listed a w := by
  intro fuel
  induction fuel with
  | zero =>
    intro listed t hc _ ι st a w hr h
    unfold cdt at hc
    split at hc
    · rename_i hready; cases hc; exact ⟨hready, hK ⟨ι, st, hr, h⟩⟩
    · cases hc
  | succ fuel ih =>
    intro listed t hc hcl ι st a w hr h
    unfold cdt at hc
    split at hc
    · rename_i hready
      cases hc
      exact ⟨fun _ => hK ⟨ι, st, hr, h⟩, by rw [hready]; simp⟩
    · rename_i i0 r0 hready
      split at hc
      · rename_i i hfirst
        obtain ⟨hmem, htak⟩ := firstN_spec hfirst
        rw [← hready] at hmem
        split at hc
        · rename_i it t' hit ht'
          cases hc
          unfold cItN at hit
          obtain ⟨oi, hoi, hcit⟩ := Option.bind_eq_some_iff.1 hit
          obtain ⟨h1, h2, h3, h4⟩ := cit_spec hcit
          obtain ⟨g, d, ro⟩ := it
          subst h3
          have hfree : Region.free .any ops listed i = true := by
            unfold takable at htak; simp only [Bool.and_eq_true] at htak; exact htak.2
          have done : ∀ (v : Value), YieldsIf cx.P ops (Ext w) oi v a → wpAnyE cx.P .any ops Q fuel (listed.setIfInBounds i true) (a.put oi.dst v) w →
              wpAnyE cx.P .any ops Q (fuel + 1) listed a w := fun v hy hn =>
            wpAnyE_first hoi (Region.noSelect_spec hsel) (fun c a w => hQ _ _ _ _ _) fuel listed a w (Region.free_spec hoi hfree) hcl hmem hy hn
          unfold vdt at h
          rcases guard_sound hr h2 h4 h with ⟨hw, st', h, hr'⟩ | ⟨hw, st', h, hr'⟩
          · obtain ⟨av, v, hk, hra, hrun⟩ := vval_sound hr'.tm hr'.mem.hr h1 h
            exact done v (.inl ⟨hw, hrun⟩) (ih _ _ ht' (hcl.set hmem) (hr'.put h4 hra) hk)
          · exact done undef (.inr ⟨hw, rfl⟩) (ih _ _ ht' (hcl.set hmem) (hr'.put h4 RA.skip) h)
        · cases hc
      · -- whichever comes up
        refine ⟨fun h0 => (by rw [hready] at h0; cases h0), ?_⟩
        have main : ∀ (l : List Nat) (t : DT), calts (cItN cx.P cx.n ops) (alone .any ops) (fun i => cdt (cItN cx.P cx.n ops) ops fuel (listed.setIfInBounds i true)) l = some t →
            vdt cx.E t st K → ∀ i ∈ l, i ∈ Region.ready .any ops listed →
            wpOp cx.P ops Q i (fun a' w' => (alone .any ops i = false → Ext w w') ∧ wpAnyE cx.P .any ops Q fuel (listed.setIfInBounds i true) a' w') a w := by
          intro l
          induction l with
          | nil => intro t _ _ i hi; cases hi
          | cons x r ihl =>
            intro t hc h i hi hir
            unfold calts at hc
            split at hc
            · rename_i it t' o hit ht' ho
              cases hc
              obtain ⟨g, d, ro⟩ := it
              unfold vdt at h
              obtain ⟨h, hother⟩ := h
              rcases List.mem_cons.1 hi with rfl | hi
              · unfold cItN at hit
                obtain ⟨oi, hoi, hcit⟩ := Option.bind_eq_some_iff.1 hit
                obtain ⟨h1, h2, h3, h4⟩ := cit_spec hcit
                subst h3
                unfold wpOp
                simp only [hoi]
                rcases guard_sound hr h2 h4 h with ⟨hw, st', h, hr'⟩ | ⟨hw, st', h, hr'⟩
                · rw [hw, if_pos rfl]
                  refine .inl (Oper.wp_mono ?_ (vro_sound hF hr' h1 h4 h))
                  rintro a' w' ⟨⟨ι', st'', hr'', hk⟩, hext⟩
                  refine ⟨fun hal => hext (by rw [hal]; rfl), ih _ _ ht' (hcl.set hir) hr'' hk⟩
                · rw [hw, if_neg (by simp)]
                  exact ⟨fun _ => Ext.refl w, ih _ _ ht' (hcl.set hir) (hr'.put h4 RA.skip) h⟩
              · exact ihl o ho hother i hi hir
            · cases hc
        intro i hi
        exact main (i0 :: r0) t hc h i (by rw [← hready]; exact hi) hi

theorem draw_sound (hF : Knows cx) (hm : cx.P.follows .mixedOrders = true) {K : St → Prop} (hK : ∀ {a w}, Kc cx K a w → Q .normal a w) (hQ : ∀ c a w a' w', Q (.panic c) a w → Q (.panic c) a' w') {t : DT}
    (hc : cdraw cx.P cx.n ops = some t) (hr : Rel cx ι st a w) (h : vdt cx.E t st K) {id : Nat} : (Code.region id ops true).wp cx.P Q a w := by
  unfold cdraw at hc
  split at hc
  · rename_i hsel
    exact wp_region_ext hm (vdt_sound hF hK hQ hsel _ _ _ hc (closed_start _) (hr.heap_eq (w' := { w with drawn := w.drawn + 1 }) rfl ⟨rfl, rfl⟩) h)
  · cases hc

end
end Hk
