/- Hk, part 16: copy. -/
import Derived.Test.YtmgkffdnnjpmpaaHkApp
namespace Hk
open Go
set_option linter.unusedVariables false
set_option linter.unusedSimpArgs false

section
variable {cx : Cx} {ι ι0 : Inj} {st : St} {a : Act} {w : World}

/-- The cells of rows' beginning. -/
theorem RowVals.take {M : Nat → Prop} {esz : Nat} {rows : List (List PV)} {vs : List Value} (h : RowVals w M esz rows vs) (n : Nat) (hn : n ≤ rows.length) :
    RowVals w M esz (rows.take n) (vs.take (n * esz)) := by
  have hle := Nat.mul_le_mul_right esz hn
  refine ⟨by rw [List.length_take, List.length_take, h.1, Nat.min_eq_left hle, Nat.min_eq_left hn], fun i row hi => ?_, fun i row j x hi hx => ?_⟩
  · rw [List.getElem?_take] at hi
    split at hi
    · exact h.2.1 _ _ hi
    · cases hi
  · rw [List.getElem?_take] at hi
    split at hi
    · rename_i hlt
      obtain ⟨g1, u, g2, g3⟩ := h.2.2 i row j x hi hx
      have hj : j < esz := by rw [← h.2.1 _ _ hi]; exact (List.getElem?_eq_some_iff.1 hx).1
      exact ⟨g1, u, by rw [List.getElem?_take_of_lt (row_pos hlt hj)]; exact g2, g3⟩
    · cases hi

theorem run_copy {P : Program} {dT sT ty e : TypeId} {esz dLen dCap n : Nat} {base : Option Addr} {x : Value} {rows : List (List PV)} {vs : List Value}
    (hu : P.underlying dT = some (.slice e)) (hs : szT P e = some esz) (hsrc : Src w ι.M x esz rows vs) (hn : n = min rows.length dLen) :
    (Builtin.copy_ #[dT, sT] ty #[.slice base dLen dCap, x]).run P w =
      match base with
      | some a => ((storeCells a (vs.take (n * esz))).run P w).andThen fun _ w' => .ok (goInt n) w'
      | none => .ok (goInt n) w := by
  have h5 := hsrc.first P n w (by omega) (Ext.refl w)
  have hn' : Nat.min rows.length dLen = n := hn.symm
  cases base <;>
    simp only [Builtin.copy_, List.getElem?_toArray, List.getElem?_cons_zero, List.getElem?_cons_succ, Sem.run_bind, run_underlying hu, Result.andThen_ok, hsrc.len, hn', run_sizeOf hs, h5, Sem.run_pure]

theorem copy_sound (hr : Rel cx ι st a w) {o : Oper} {s x : Operand} {s' x' : Opd} {dT sT e : TypeId} {esz : Nat} {c : Call} (ho : o.op = .call c) (hcal : c.callee = .builtin .copy)
    (hargs : c.args = #[s, x]) (htys : c.argTypes = #[dT, sT])
    (hu : cx.P.underlying dT = some (.slice e)) (hs : szT cx.P e = some esz) (hcs : cOpd s = some s') (hcx : cOpd x = some x') (hd : ∀ t, o.dst = some t → t < cx.n)
    {k : St → Prop} (h : vro cx.E false (.copy s' x' esz) o.dst st k) {Q : Exit → Act → World → Prop} : o.wp cx.P a w (Kc cx k) Q := by
  have hsv := ev_sound hr.tm hcs
  have hxv := ev_sound hr.tm hcx
  have h : vcopy st (ev st s') (ev st x') esz o.dst k := force_of (k := fun x => vcopy st (ev st s') x esz o.dst k) (force_of (k := fun s => force (ev st x') fun x => vcopy st s x esz o.dst k) h)
  generalize ev st s' = as at h hsv
  generalize ev st x' = ax at h hxv
  have run : ∀ v w', (Builtin.copy_ #[dT, sT] o.type #[a.eval s, a.eval x]).run cx.P w = .ok v w' → (execOp a.eval o).run cx.P w = .ok (.value v) w' := fun v w' h1 => by
    simp [execOp, ho, resolve, hcal, hargs, htys, invoke, builtin, h1]
  generalize hes : a.eval s = vs at hsv run
  generalize hex : a.eval x = vx at hxv run
  unfold vcopy at h
  split at h
  · rename_i b wd i len cap0
    split at h
    · rename_i wd' rows hn
      cases hw : (Nat.beq wd wd' && Nat.beq wd esz) with
      | false => rw [hw] at h; exact h.elim
      | true =>
        rw [hw] at h
        simp only [cond_true] at h
        obtain ⟨e1, e2⟩ := by simpa using hw
        subst e1; subst e2
        obtain ⟨rnew, new, ⟨hfull, hk⟩, hsrc⟩ := vrows_src hr.mem.hr hxv h
        generalize hm : min rnew.length len = m at hk
        have hmx : (rnew.take m).length = m := by simp; omega
        have hval := hsrc.vals.take m (by omega)
        have hvl := hval.1
        rw [hmx] at hvl
        cases hsv with
        | slz hcap =>
          rename_i oa
          have hm0 : m = 0 := by omega
          subst hm0
          have hrun := run_copy (w := w) (ι := ι) (dT := dT) (sT := sT) (ty := o.type) (base := oa) (dLen := 0) (dCap := 0) (n := 0) hu hs hsrc (by omega)
          have hrun2 : (execOp a.eval o).run cx.P w = .ok (.value (.int .i64 (0 : Nat))) w := by
            apply run
            rw [hrun]
            cases oa with
            | none => rfl
            | some ad => simp [storeCells, goInt]
          have hsame : Mem cx ι (setNth st.heap b (.pr wd (rows.take i ++ rnew.take 0 ++ rows.drop (i + 0)))) w := by
            have : rows.take i ++ rnew.take 0 ++ rows.drop (i + 0) = rows := by simp
            rw [this]
            have : setNth st.heap b (.pr wd rows) = st.heap := by
              rw [setNth_eq]
              apply List.ext_getElem?
              intro j
              rw [List.getElem?_set]
              split
              · rename_i e
                subst e
                rw [nth_eq] at hn
                cases hq : st.heap[b]? with
                | none => rw [hq] at hn; cases hn
                | some q =>
                  rw [hq] at hn
                  simp at hn
                  subst hn
                  simp [(List.getElem?_eq_some_iff.1 hq).1]
              · rfl
            rw [this]; exact hr.mem
          exact wp_value hrun2 ⟨ι, _, Rel.put (st := ⟨st.tmps, setNth st.heap b (.pr wd (rows.take i ++ rnew.take 0 ++ rows.drop (i + 0)))⟩) ⟨hsame, hr.tm, hr.sz, hr.df⟩ hd (.p (.int _ _)), hk⟩
        | sl hb hl hcap hs' =>
          rename_i c o' s cc
          have hrb := hr.mem.hr.blk b
          rw [hn, hb] at hrb
          obtain ⟨cs, ty, fz, hc, ht, hsz, hlen2, hrl, hcell⟩ := hrb.at
          have hmul : (i + m) * wd ≤ rows.length * wd := Nat.mul_le_mul_right _ (by omega)
          rw [Nat.add_mul] at hmul
          have hbound : o' + i * wd + (new.take (m * wd)).length ≤ cs.size := by omega
          have hst := run_storeCells (P := cx.P) c (o' + i * wd) ty fz (new.take (m * wd)) 0 cs w hc (by omega) ht hval.one
          simp only [Nat.add_zero] at hst
          have hrun := run_copy (w := w) (ι := ι) (dT := dT) (sT := sT) (ty := o.type) (base := some ⟨c, o' + i * wd, none⟩) (dLen := len) (dCap := cc) (n := m) hu hs hsrc (by omega)
          have hrun2 : (execOp a.eval o).run cx.P w = .ok (.value (.int .i64 (m : Nat))) (setW w c (.cells (segA cs (o' + i * wd) (new.take (m * wd))) ty fz)) := by
            apply run
            rw [hrun]
            simp only [hst]
            rfl
          have hblk : BlkAt w ι (segA cs (o' + i * wd) (new.take (m * wd))) o' (.pr wd (rows.take i ++ rnew.take m ++ rows.drop (i + m))) := by
            refine ⟨?_, fun n r hr' => ?_, fun n r j z hr' hz => ?_⟩
            · rw [segA_size _ _ _ hbound]
              have := seg_len rows i (rnew.take m) (by omega)
              rw [hmx] at this
              rw [this]; exact hlen2
            · have hg := seg_get rows i (rnew.take m) (by omega) n
              rw [hmx] at hg
              rw [hg] at hr'
              split at hr'
              · exact hval.2.1 _ _ hr'
              · exact hrl _ _ hr'
            · rw [segA_get _ _ _ hbound, hvl]
              have hg := seg_get rows i (rnew.take m) (by omega) n
              rw [hmx] at hg
              rw [hg] at hr'
              split at hr'
              · rename_i hin
                obtain ⟨g1, u, g2, g3⟩ := hval.2.2 _ _ j z hr' hz
                have hlt := (List.getElem?_eq_some_iff.1 g2).1
                have e3 : n * wd = i * wd + (n - i) * wd := by rw [← Nat.add_mul]; congr 1; omega
                rw [if_pos (by omega)]
                exact ⟨g1, u, by rw [← g2]; congr 1; omega, g3⟩
              · rename_i hout
                have hj : j < wd := by rw [← hrl _ _ hr']; exact (List.getElem?_eq_some_iff.1 hz).1
                rw [if_neg]
                · exact hcell n r j z hr' hz
                · rintro ⟨q1, q2⟩
                  rcases Nat.lt_or_ge n i with h4 | h4
                  · have := row_pos h4 hj; omega
                  · have h5 : i + m ≤ n := by omega
                    have := Nat.mul_le_mul_right wd h5
                    rw [Nat.add_mul] at this
                    omega
          obtain ⟨hm', hL⟩ := hr.mem.write hb (w' := setW w c (.cells (segA cs (o' + i * wd) (new.take (m * wd))) ty fz)) (blk := .pr wd (rows.take i ++ rnew.take m ++ rows.drop (i + m)))
            (fun d z hd' hz => by rw [setW_ne _ _ hd']; exact hz) (by simp [setW]) ⟨rfl, rfl⟩
            (fun hL => by
              have := (hblk.later_pr hL).rb (ty := ty) (fz := fz) (setW_self w c _ (Array.getElem?_eq_some_iff.1 hc).1) (by rw [segA_size _ _ _ hbound]; exact ht)
              rw [segA_size _ _ _ hbound, hsz] at this
              exact this)
          exact wp_value hrun2 ⟨ι, _, Rel.put (st := ⟨st.tmps, setNth st.heap b (.pr wd (rows.take i ++ rnew.take m ++ rows.drop (i + m)))⟩) ⟨hm', tm_later hL (fun _ _ h => h) hr.tm, hr.sz, hr.df⟩ hd (.p (.int _ _)), hk⟩
    · exact h.elim
  · rename_i b wd i j e' len
    split at h
    · rename_i wd' rows hn
      cases hw : (Nat.beq wd wd' && Nat.beq e' esz && Nat.beq e' 1) with
      | false => rw [hw] at h; exact h.elim
      | true =>
        rw [hw] at h
        simp only [cond_true] at h
        obtain ⟨⟨e1, e2⟩, e3⟩ := by simpa using hw
        subst e1; subst e2; subst e3
        obtain ⟨rnew, new, ⟨row, ys, hrow, hfull, hys, hk⟩, hsrc⟩ := vrows_src hr.mem.hr hxv h
        generalize hm : min rnew.length len = m at hk hys
        have hmx : (rnew.take m).length = m := by simp; omega
        have hyl : ys.length = m := by have := congrArg List.length hys; rw [hmx] at this; simpa using this.symm
        have hval := hsrc.vals.take m (by omega)
        have hvl : (new.take (m * 1)).length = m := by have := hval.1; rw [hmx] at this; omega
        cases hsv with
        | cslz =>
          rename_i cc oa
          have hm0 : m = 0 := by omega
          subst hm0
          have hrun := run_copy (w := w) (ι := ι) (dT := dT) (sT := sT) (ty := o.type) (base := oa) (dLen := 0) (dCap := cc) (n := 0) hu hs hsrc (by omega)
          have hrun2 : (execOp a.eval o).run cx.P w = .ok (.value (.int .i64 (0 : Nat))) w := by
            apply run
            rw [hrun]
            cases oa with
            | none => rfl
            | some ad => simp [storeCells, goInt]
          have hy0 : ys = [] := List.eq_nil_of_length_eq_zero hyl
          subst hy0
          have hsame : Mem cx ι (setNth st.heap b (.pr wd (rows.set i (row.take j ++ [] ++ row.drop (j + 0))))) w := by
            have : row.take j ++ [] ++ row.drop (j + 0) = row := by simp
            rw [this]
            have : rows.set i row = rows := by
              apply List.ext_getElem?
              intro n
              rw [List.getElem?_set]
              split
              · rename_i e; subst e; rw [hrow]; simp [(List.getElem?_eq_some_iff.1 hrow).1]
              · rfl
            rw [this]
            have : setNth st.heap b (.pr wd rows) = st.heap := by
              rw [setNth_eq]
              apply List.ext_getElem?
              intro j
              rw [List.getElem?_set]
              split
              · rename_i e
                subst e
                rw [nth_eq] at hn
                cases hq : st.heap[b]? with
                | none => rw [hq] at hn; cases hn
                | some q =>
                  rw [hq] at hn
                  simp at hn
                  subst hn
                  simp [(List.getElem?_eq_some_iff.1 hq).1]
              · rfl
            rw [this]; exact hr.mem
          exact wp_value hrun2 ⟨ι, _, Rel.put (st := ⟨st.tmps, setNth st.heap b (.pr wd (rows.set i (row.take j ++ [] ++ row.drop (j + 0))))⟩) ⟨hsame, hr.tm, hr.sz, hr.df⟩ hd (.p (.int _ _)), hk⟩
        | csl hb hl =>
          rename_i c o' s cc
          have hrb := hr.mem.hr.blk b
          rw [hn, hb] at hrb
          obtain ⟨cs, ty, fz, hc, ht, hsz, hlen2, hrl, hcell⟩ := hrb.at
          have hrw := hrl i row hrow
          have hilt : i < rows.length := (List.getElem?_eq_some_iff.1 hrow).1
          have himul : i * wd + wd ≤ rows.length * wd := by
            have := Nat.mul_le_mul_right wd (show i + 1 ≤ rows.length from hilt)
            rwa [Nat.add_mul, Nat.one_mul] at this
          have hbound : o' + (i * wd + j) + (new.take (m * 1)).length ≤ cs.size := by omega
          have hst := run_storeCells (P := cx.P) c (o' + (i * wd + j)) ty fz (new.take (m * 1)) 0 cs w hc (by omega) ht hval.one
          simp only [Nat.add_zero] at hst
          have hrun := run_copy (w := w) (ι := ι) (dT := dT) (sT := sT) (ty := o.type) (base := some ⟨c, o' + (i * wd + j), none⟩) (dLen := len) (dCap := cc) (n := m) hu hs hsrc (by omega)
          have hrun2 : (execOp a.eval o).run cx.P w = .ok (.value (.int .i64 (m : Nat))) (setW w c (.cells (segA cs (o' + (i * wd + j)) (new.take (m * 1))) ty fz)) := by
            apply run
            rw [hrun]
            simp only [hst]
            rfl
          have hrow' : (row.take j ++ ys ++ row.drop (j + m)).length = wd := by
            rw [← hyl, seg_len _ _ _ (by omega)]; exact hrw
          have hblk : BlkAt w ι (segA cs (o' + (i * wd + j)) (new.take (m * 1))) o' (.pr wd (rows.set i (row.take j ++ ys ++ row.drop (j + m)))) := by
            refine ⟨by rw [segA_size _ _ _ hbound, List.length_set]; exact hlen2, fun n r hr => ?_, fun n r q z hr hz => ?_⟩
            · rw [List.getElem?_set] at hr
              split at hr
              · cases hr; exact hrow'
              · exact hrl n r hr
            · rw [segA_get _ _ _ hbound, hvl]
              rw [List.getElem?_set] at hr
              split at hr
              · rename_i e
                subst e
                cases hr
                rw [← hyl, seg_get _ _ _ (by omega)] at hz
                split at hz
                · rename_i hin
                  rw [if_pos (by omega)]
                  have hyr : (rnew.take m)[q - j]? = some [z] := by rw [hys]; simp [hz]
                  obtain ⟨g1, u, g2, g3⟩ := hval.2.2 _ _ 0 z hyr rfl
                  exact ⟨g1, u, by rw [← g2]; congr 1; omega, g3⟩
                · rename_i hin
                  rw [if_neg (by omega)]
                  exact hcell i row q z hrow hz
              · rename_i e
                have hmw : q < wd := by
                  have := (List.getElem?_eq_some_iff.1 hz).1
                  rw [hrl n r hr] at this; exact this
                rw [if_neg]
                · exact hcell n r q z hr hz
                · rintro ⟨q1, q2⟩
                  rcases Nat.lt_or_gt_of_ne e with h4 | h4
                  · have := Nat.mul_le_mul_right wd (show i + 1 ≤ n from h4)
                    rw [Nat.add_mul, Nat.one_mul] at this
                    omega
                  · have := Nat.mul_le_mul_right wd (show n + 1 ≤ i from h4)
                    rw [Nat.add_mul, Nat.one_mul] at this
                    omega
          obtain ⟨hm', hL⟩ := hr.mem.write hb (w' := setW w c (.cells (segA cs (o' + (i * wd + j)) (new.take (m * 1))) ty fz)) (blk := .pr wd (rows.set i (row.take j ++ ys ++ row.drop (j + m))))
            (fun d z hd' hz => by rw [setW_ne _ _ hd']; exact hz) (by simp [setW]) ⟨rfl, rfl⟩
            (fun hL => by
              have := (hblk.later_pr hL).rb (ty := ty) (fz := fz) (setW_self w c _ (Array.getElem?_eq_some_iff.1 hc).1) (by rw [segA_size _ _ _ hbound]; exact ht)
              rw [segA_size _ _ _ hbound, hsz] at this
              exact this)
          exact wp_value hrun2 ⟨ι, _, Rel.put (st := ⟨st.tmps, setNth st.heap b (.pr wd (rows.set i (row.take j ++ ys ++ row.drop (j + m))))⟩) ⟨hm', tm_later hL (fun _ _ h => h) hr.tm, hr.sz, hr.df⟩ hd (.p (.int _ _)), hk⟩
    · exact h.elim
  · exact h.elim

end
end Hk
