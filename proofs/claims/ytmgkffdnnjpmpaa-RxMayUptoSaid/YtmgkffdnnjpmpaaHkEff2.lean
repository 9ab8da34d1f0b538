/- Hk, part 12: a slice is given up; stores. -/
import Derived.Test.YtmgkffdnnjpmpaaHkEff
namespace Hk
open Go
set_option linter.unusedVariables false
set_option linter.unusedSimpArgs false

/-- Blocks were given up. -/
structure Frz (ι ι' : Inj) (h' : List Blk) : Prop where
  old : ∀ b p, ι b = some p → ι' b = some p ∨ nth .dead h' b = .dead
  less : ∀ c, ι'.M c → ι.M c

theorem Frz.refl (ι : Inj) (h : List Blk) : Frz ι ι h := ⟨fun _ _ h => .inl h, fun _ h => h⟩
theorem Frz.later {ι ι' : Inj} {h' : List Blk} (hf : Frz ι ι' h') (w : World) : Later ι.M w w ι'.M := ⟨fun _ _ _ h => h, fun c h => .inl (hf.less c h), Nat.le_refl _⟩

section
variable {cx : Cx} {ι ι0 : Inj} {st : St} {a : Act} {w : World}

theorem vpure_sound (hr : Rel cx ι st a w) (hf : Frz ι0 ι st.heap) {x : AV} {v : Value} (hx : RA w ι0 x v) {k : St → PV → Prop} (h : vpure cx.E st x k) :
    ∃ ι' st' y, k st' y ∧ Rel cx ι' st' a w ∧ RP w ι'.M y v ∧ Frz ι0 ι' st'.heap ∧ Later ι.M w w ι'.M := by
  unfold vpure at h
  split at h
  · rename_i y
    exact ⟨ι, st, y, forceP_of (k := fun x => k st x) h, hr, (RA_p hx).later (hf.later w), hf, Later.refl _ _⟩
  · rename_i b wd i len cap
    split at h
    · rename_i wd' rows hn
      cases hw : (Nat.beq wd wd' && !cx.E.fx b) with
      | false => rw [hw] at h; exact h.elim
      | true =>
        rw [hw] at h
        obtain ⟨hw, hfx⟩ := by simpa using hw
        subst hw
        obtain ⟨rs, hrs, hlen, hk⟩ := h
        have hb : b < st.heap.length := hr.mem.hr.blen (by rw [hn]; simp)
        obtain ⟨hm, hL⟩ := hr.mem.turn (w' := w) hb hfx (p := none) (blk := .dead) (c := w.heap.size) (.inr (Nat.le_refl _)) (by simp) (fun _ _ _ h => h) (Nat.le_refl _) ⟨rfl, rfl⟩ (fun _ => rfl)
        have hι : ∀ b', b' ≠ b → ∀ q, ι b' = some q → (ι.upd b none) b' = some q := fun b' e q hq => by rw [Inj.upd_ne _ _ e]; exact hq
        refine ⟨ι.upd b none, _, _, hk, ⟨hm, tm_kill hL hι hr.tm, hr.sz, hr.df⟩, ?_, ⟨fun b' p hp => ?_, fun c hc => ?_⟩, hL⟩
        · rw [dropN_eq] at hrs
          cases hx with
          | sl hb0 hl hcap hs' =>
            rename_i c o s cc
            have hbι : ι b = some (c, o, s) := by
              rcases hf.old _ _ hb0 with h1 | h1
              · exact h1
              · rw [hn] at h1; cases h1
            rw [← hlen]
            refine RP_isl_mk (ad := ⟨c, o + i * wd, none⟩) rfl ?_ ?_ (by omega) (by simp) fun n row hi => ?_
            · rintro (⟨b', o', s', hb'⟩ | hX)
              rotate_left
              · exact hr.mem.hr.dis _ _ _ _ hbι hX
              by_cases e : b' = b
              · subst e; rw [Inj.upd_self] at hb'; cases hb'
              · rw [Inj.upd_ne _ _ e] at hb'
                exact e (hr.mem.hr.inj _ _ _ _ _ _ _ hb' hbι)
            · exact hr.mem.hr.lt ⟨b, o, s, hbι⟩
            · have hi' : rows[i + n]? = some row := by
                have : ((rows.drop i).take len)[n]? = some row := by rw [hrs]; exact hi
                rw [List.getElem?_take] at this
                split at this
                · rwa [List.getElem?_drop] at this
                · cases this
              obtain ⟨h1, h2⟩ := hr.mem.hr.row hbι hn hi'
              refine ⟨h1, fun j x hx => ?_⟩
              obtain ⟨h3, v, h4, h5⟩ := h2 j x hx
              exact ⟨h3, v, by rw [← h4]; congr 2; simp [Nat.add_mul, Nat.add_assoc], h5.later hL⟩
          | slz hcap =>
            have : rs = [] := List.eq_nil_of_length_eq_zero hlen
            subst this
            exact .nil (by simp)
        · by_cases e : b' = b
          · right
            subst e
            rw [nth_setNth _ _ _ _ _ (by rw [killH_len]; exact hb), if_pos rfl]
          · rcases hf.old _ _ hp with h1 | h1
            · left; rw [Inj.upd_ne _ _ e]; exact h1
            · right
              rw [nth_setNth _ _ _ _ _ (by rw [killH_len]; exact hb), if_neg e, killH_nth, h1]
              rfl
        · rcases hL.new c hc with h1 | h1
          · exact hf.less c h1
          · rcases hc with hc | hc
            · have := hm.hr.lt hc; omega
            · exact hf.less c (.inr hc)
    · exact h.elim
  · exact h.elim

theorem vpureL_sound {val : Nat → Value} : ∀ (xs : List AV) (n : Nat) {ι : Inj} {st : St} (hr : Rel cx ι st a w) (hf : Frz ι0 ι st.heap)
    (hx : ∀ (i : Nat) x, xs[i]? = some x → RA w ι0 x (val (n + i))) {k : St → List PV → Prop} (h : vpureL cx.E st xs k),
    ∃ ι' st' ys, k st' ys ∧ Rel cx ι' st' a w ∧ ys.length = xs.length ∧ (∀ (i : Nat) y, ys[i]? = some y → RP w ι'.M y (val (n + i))) ∧ Frz ι0 ι' st'.heap ∧ Later ι.M w w ι'.M
  | [], n, ι, st, hr, hf, hx, k, h => ⟨ι, st, [], h, hr, rfl, by simp, hf, Later.refl _ _⟩
  | x :: r, n, ι, st, hr, hf, hx, k, h => by
    obtain ⟨ι1, st1, y, h1, hr1, hp1, hf1, hL1⟩ := vpure_sound hr hf (hx 0 x rfl) h
    obtain ⟨ι2, st2, ys, h2, hr2, hl2, hp2, hf2, hL2⟩ := vpureL_sound r (n + 1) hr1 hf1 (fun i x hi => by
      have := hx (i + 1) x (by simpa using hi)
      rw [Nat.add_assoc, Nat.add_comm 1 i]; exact this) h1
    refine ⟨ι2, st2, y :: ys, h2, hr2, by simp [hl2], fun i z hz => ?_, hf2, ⟨fun _ _ _ h => h, fun c hc => ?_, Nat.le_refl _⟩⟩
    · cases i with
      | zero => simp at hz; subst hz; exact hp1.later hL2
      | succ i =>
        have := hp2 i z (by simpa using hz)
        rw [Nat.add_assoc, Nat.add_comm 1 i] at this; exact this
    · rcases hL2.new c hc with h3 | h3
      · exact hL1.new c h3
      · exact .inr h3

theorem seg_get {α : Type} (l : List α) (k : Nat) (vs : List α) (hk : k + vs.length ≤ l.length) (n : Nat) :
    (l.take k ++ vs ++ l.drop (k + vs.length))[n]? = if k ≤ n ∧ n < k + vs.length then vs[n - k]? else l[n]? := by
  rw [List.append_assoc]
  by_cases h1 : n < k
  · rw [if_neg (by omega), List.getElem?_append_left (by simp; omega), List.getElem?_take_of_lt h1]
  · rw [List.getElem?_append_right (by simp; omega)]
    simp only [List.length_take, Nat.min_eq_left (show k ≤ l.length by omega)]
    by_cases h2 : n < k + vs.length
    · rw [if_pos (by omega), List.getElem?_append_left (by omega)]
    · rw [if_neg (by omega), List.getElem?_append_right (by omega), List.getElem?_drop]
      congr 1; omega

theorem seg_len {α : Type} (l : List α) (k : Nat) (vs : List α) (hk : k + vs.length ≤ l.length) : (l.take k ++ vs ++ l.drop (k + vs.length)).length = l.length := by
  simp; omega

theorem vpureL_p {E : En} {st : St} : ∀ (l : List PV) {k : St → List PV → Prop}, k st l → vpureL E st (l.map .p) k
  | [], k, h => h
  | x :: r, k, h => by
    have : vpureL E st (r.map .p) (fun st ys => k st (x :: ys)) := vpureL_p r h
    cases x <;> exact this

theorem vagg_of {E : En} {st : St} {x : AV} {k : St → List PV → Prop} (h : vagg E st x k) : vpureL E st (cellsOf x) k := by
  unfold vagg at h
  split at h
  · rename_i l; exact vpureL_p l h
  · exact h

/-- A segment of a block's cells, turned. -/
def segA (cs : Array Value) (k : Nat) (vs : List Value) : Array Value := (cs.toList.take k ++ vs ++ cs.toList.drop (k + vs.length)).toArray

theorem segA_get (cs : Array Value) (k : Nat) (vs : List Value) (hk : k + vs.length ≤ cs.size) (n : Nat) : (segA cs k vs)[n]? = if k ≤ n ∧ n < k + vs.length then vs[n - k]? else cs[n]? := by
  unfold segA
  rw [List.getElem?_toArray, seg_get _ _ _ (by simpa using hk)]
  simp

theorem segA_size (cs : Array Value) (k : Nat) (vs : List Value) (hk : k + vs.length ≤ cs.size) : (segA cs k vs).size = cs.size := by
  unfold segA
  rw [List.size_toArray, seg_len _ _ _ (by simpa using hk)]
  simp

theorem storeAt_sound (hr : Rel cx ι st a w) {o : Oper} {t : TypeId} {x v : Operand} {x' v' : Opd} {sz : Nat} (ho : o.op = .store t x v) (hx : cOpd x = some x') (hv : cOpd v = some v')
    (hs : szT cx.P t = some sz) (hd : ∀ t, o.dst = some t → t < cx.n) {k : St → Prop} (h : vro cx.E false (.store x' v' sz) o.dst st k)
    {Q : Exit → Act → World → Prop} : o.wp cx.P a w (Kc cx k) Q := by
  have hxv := ev_sound hr.tm hx
  have hvv := ev_sound hr.tm hv
  have h : vstore cx.E st (ev st x') (ev st v') sz (fun st => k (st.put o.dst .undef)) := force_of (k := fun v => vstore cx.E st (ev st x') v sz (fun st => k (st.put o.dst .undef))) (force_of (k := fun a => force (ev st v') fun v => vstore cx.E st a v sz (fun st => k (st.put o.dst .undef))) h)
  generalize ev st x' = ax at h hxv
  generalize ev st v' = av at h hvv
  generalize hav : a.eval x = vx at hxv
  generalize hvvv : a.eval v = vv at hvv
  -- the store at an own block's place
  have run : ∀ (c off : Nat) (cs : Array Value) (ty : TypeId) (fz : Nat × Nat), vx = .pointer (some ⟨c, off, none⟩) → w.heap[c]? = some (.cells cs ty fz) → Thaw cs.size fz → vv.cells.size = sz → off + sz ≤ cs.size →
      (∀ v ∈ vv.cells.toList, oneC v = true) → (execOp a.eval o).run cx.P w = .ok .skip (setW w c (.cells (segA cs off vv.cells.toList) ty fz)) := by
    intro c off cs ty fz hvx hc ht hsz hoff hone
    have h1 := run_storeCells (P := cx.P) c off ty fz vv.cells.toList 0 cs w hc (by simp; omega) ht hone
    simp only [Nat.add_zero] at h1
    simp only [execOp, ho, hav, hvvv, hvx, Instr.storeAt, Instr.sureAddr, Sem.run_bind, Sem.run_pure, Result.andThen_ok, storeVar, run_sizeOf hs, hsz, ne_eq, not_true_eq_false, if_false, h1]
    rfl
  unfold vstore at h
  split at h
  · rename_i b wd i j
    cases hxv
    rename_i c o' s hb
    split at h
    · rename_i cells hn
      split at h
      · -- a variable
        cases hb2 : (vok av && Nat.beq (cellsOf av).length sz && Nat.ble (j + sz) cells.length) with
        | false => rw [hb2] at h; exact h.elim
        | true =>
          rw [hb2] at h
          simp only [cond_true] at h
          simp only [Bool.and_eq_true] at hb2
          obtain ⟨⟨hok, e1⟩, e2⟩ := hb2
          have e1 := Nat.eq_of_beq_eq_true e1
          have e2 := Nat.le_of_ble_eq_true e2
          obtain ⟨hcs, hcv⟩ := cells_sound hok hvv
          have hrb := hr.mem.hr.blk b
          rw [hn, hb] at hrb
          obtain ⟨cs, ty, fz, hc, ht, hsz, hlen, hcell⟩ := hrb.at
          simp only [Nat.zero_mul, Nat.zero_add] at *
          have hvl : vv.cells.toList.length = sz := by simp; omega
          have hbound : o' + j + vv.cells.toList.length ≤ cs.size := by omega
          have hrun := run c (o' + j) cs ty fz rfl hc ht (by omega) (by omega) (fun z hz => by
            obtain ⟨n, hn', rfl⟩ := List.getElem_of_mem hz
            have := (hcv n _ (List.getElem?_eq_getElem (by simp at hn'; omega))).1
            simpa [show n < vv.cells.size by simpa using hn'] using this)
          obtain ⟨hm, hL⟩ := hr.mem.write hb (w' := setW w c (.cells (segA cs (o' + j) vv.cells.toList) ty fz))
            (blk := .mx (cells.take j ++ cellsOf av ++ cells.drop (j + sz)))
            (fun d z hd hz => by rw [setW_ne _ _ hd]; exact hz) (by simp [setW]) ⟨rfl, rfl⟩ (fun hL => by
              have hb3 : BlkAt w ι (segA cs (o' + j) vv.cells.toList) o' (.mx (cells.take j ++ cellsOf av ++ cells.drop (j + sz))) := by
                rw [← e1]
                refine ⟨by rw [segA_size _ _ _ hbound, seg_len _ _ _ (by omega)]; exact hlen, fun n z hz => ?_⟩
                rw [seg_get _ _ _ (by omega)] at hz
                rw [segA_get _ _ _ hbound]
                split at hz
                · rename_i hin
                  rw [if_pos (by omega)]
                  obtain ⟨g1, g2⟩ := hcv _ _ hz
                  have hlt : n - j < vv.cells.size := by omega
                  refine ⟨vv.cells[n - j], ?_, ?_, ?_⟩
                  · rw [show o' + n - (o' + j) = n - j by omega]; simp [hlt]
                  · simpa [hlt] using g1
                  · simpa [hlt] using g2
                · rename_i hin
                  rw [if_neg (by omega)]
                  exact hcell n z hz
              have := (hb3.later hL (fun _ _ h => h)).rb (ty := ty) (fz := fz) (setW_self w c _ (Array.getElem?_eq_some_iff.1 hc).1) (by rw [segA_size _ _ _ hbound]; exact ht)
              rw [segA_size _ _ _ hbound, hsz] at this
              exact this)
          exact wp_skip' hrun ⟨ι, _, Rel.put (st := ⟨st.tmps, setNth st.heap b (.mx (cells.take j ++ cellsOf av ++ cells.drop (j + sz)))⟩) ⟨hm, tm_later hL (fun _ _ h => h) hr.tm, hr.sz, hr.df⟩ hd (.und _), h⟩
      · exact h.elim
    · -- a row of pure cells
      cases hok : vok av with
      | false => rw [hok] at h; exact h.elim
      | true =>
        rw [hok] at h
        simp only [cond_true] at h
        obtain ⟨hcs, hcv⟩ := cells_sound hok hvv
        have h := vagg_of h
        obtain ⟨ι', st', ys, h, hr', hly, hpy, hf, hL'⟩ := vpureL_sound (val := fun i => vv.cells.getD i undef) (cellsOf av) 0 hr (Frz.refl ι st.heap) (fun i x hx => by simpa using (hcv i x hx).2) h
        split at h
        · rename_i wd' rows hn'
          cases hw : Nat.beq wd wd' with
          | false => rw [hw] at h; exact h.elim
          | true =>
            rw [hw] at h
            obtain rfl := Nat.eq_of_beq_eq_true hw
            obtain ⟨row, hrow, hys, hjs, h⟩ := h
            have hb' : ι' b = some (c, o', s) := by
              rcases hf.old _ _ hb with h1 | h1
              · exact h1
              · rw [hn'] at h1; cases h1
            have hrb := hr'.mem.hr.blk b
            rw [hn', hb'] at hrb
            obtain ⟨cs, ty, fz, hc, ht, hsz, hlen, hrl, hcell⟩ := hrb.at
            have hrw := hrl i row hrow
            have hilt : i < rows.length := (List.getElem?_eq_some_iff.1 hrow).1
            have himul : i * wd + wd ≤ rows.length * wd := by
              have := Nat.mul_le_mul_right wd (show i + 1 ≤ rows.length from hilt)
              rwa [Nat.add_mul, Nat.one_mul] at this
            have hvl : vv.cells.toList.length = sz := by simp; omega
            have hbound : o' + (i * wd + j) + vv.cells.toList.length ≤ cs.size := by omega
            have hrun := run c (o' + (i * wd + j)) cs ty fz rfl hc ht (by omega) (by omega) (fun z hz => by
              obtain ⟨n, hn', rfl⟩ := List.getElem_of_mem hz
              have := (hcv n _ (List.getElem?_eq_getElem (by simp at hn'; omega))).1
              simpa [show n < vv.cells.size by simpa using hn'] using this)
            have hrow' : (row.take j ++ ys ++ row.drop (j + sz)).length = wd := by
              rw [← hys, seg_len _ _ _ (by omega)]; exact hrw
            obtain ⟨hm, hL⟩ := hr'.mem.write hb' (w' := setW w c (.cells (segA cs (o' + (i * wd + j)) vv.cells.toList) ty fz))
              (blk := .pr wd (rows.set i (row.take j ++ ys ++ row.drop (j + sz))))
              (fun d z hd hz => by rw [setW_ne _ _ hd]; exact hz) (by simp [setW]) ⟨rfl, rfl⟩ (fun hL => by
                have hb3 : BlkAt w ι' (segA cs (o' + (i * wd + j)) vv.cells.toList) o' (.pr wd (rows.set i (row.take j ++ ys ++ row.drop (j + sz)))) := by
                  refine ⟨by rw [segA_size _ _ _ hbound, List.length_set]; exact hlen, fun n r hr => ?_, fun n r m z hr hz => ?_⟩
                  · rw [List.getElem?_set] at hr
                    split at hr
                    · cases hr; exact hrow'
                    · exact hrl n r hr
                  · rw [segA_get _ _ _ hbound]
                    rw [List.getElem?_set] at hr
                    split at hr
                    · rename_i e
                      subst e
                      cases hr
                      · rw [← hys, seg_get _ _ _ (by omega)] at hz
                        split at hz
                        · rename_i hin
                          rw [if_pos (by omega)]
                          have hlt : m - j < vv.cells.size := by omega
                          have g1 := hpy _ _ hz
                          have g2 := (hcv (m - j) _ (List.getElem?_eq_getElem (by omega))).1
                          simp only [Nat.zero_add] at g1
                          refine ⟨g1.one_of g2, vv.cells.getD (m - j) undef, ?_, g1⟩
                          rw [show o' + (i * wd + m) - (o' + (i * wd + j)) = m - j by omega]
                          simp [hlt]
                        · rename_i hin
                          rw [if_neg (by omega)]
                          exact hcell i row m z hrow hz
                    · rename_i e
                      have hmw : m < wd := by
                        have := (List.getElem?_eq_some_iff.1 hz).1
                        rw [hrl n r hr] at this; exact this
                      rw [if_neg]
                      · exact hcell n r m z hr hz
                      · rintro ⟨q1, q2⟩
                        rcases Nat.lt_or_gt_of_ne e with h4 | h4
                        · have := Nat.mul_le_mul_right wd (show i + 1 ≤ n from h4)
                          rw [Nat.add_mul, Nat.one_mul] at this
                          omega
                        · have := Nat.mul_le_mul_right wd (show n + 1 ≤ i from h4)
                          rw [Nat.add_mul, Nat.one_mul] at this
                          omega
                have := (hb3.later hL (fun _ _ h => h)).rb (ty := ty) (fz := fz) (setW_self w c _ (Array.getElem?_eq_some_iff.1 hc).1) (by rw [segA_size _ _ _ hbound]; exact ht)
                rw [segA_size _ _ _ hbound, hsz] at this
                exact this)
            exact wp_skip' hrun ⟨ι', _, Rel.put (st := ⟨st'.tmps, setNth st'.heap b (.pr wd (rows.set i (row.take j ++ ys ++ row.drop (j + sz))))⟩) ⟨hm, tm_later hL (fun _ _ h => h) hr'.tm, hr'.sz, hr'.df⟩ hd (.und _), h⟩
        · exact h.elim
    · exact h.elim
  · exact h.elim

end
end Hk
