/- Hk, part 14: make, []byte(s), append, copy. -/
import Derived.Test.YtmgkffdnnjpmpaaHkEff3
namespace Hk
open Go
set_option linter.unusedVariables false
set_option linter.unusedSimpArgs false

section
variable {cx : Cx} {ι ι0 : Inj} {st : St} {a : Act} {w : World}

theorem zero_rows {z : List PV} {v : Value} {esz : Nat} (hz : ∀ (i : Nat) x, z[i]? = some x → x.one = true ∧ RP w ι.M x (v.cells.getD i undef)) (hs : v.cells.size = z.length) (hl : z.length = esz) (m : Nat) :
    RowVals w ι.M esz (List.replicate m z) ((List.range (m * esz)).map fun i => v.cells[i % v.cells.size]!) := by
  refine ⟨by simp, fun i row hi => ?_, fun i row j x hi hx => ?_⟩
  · rw [List.getElem?_replicate] at hi
    split at hi
    · cases hi; exact hl
    · cases hi
  · rw [List.getElem?_replicate] at hi
    split at hi
    · rename_i hlt
      cases hi
      obtain ⟨h1, h2⟩ := hz j x hx
      have hj : j < esz := by rw [← hl]; exact (List.getElem?_eq_some_iff.1 hx).1
      refine ⟨h1, v.cells.getD j undef, ?_, h2⟩
      rw [List.getElem?_map, List.getElem?_range (row_pos hlt hj)]
      have hmod : (i * esz + j) % v.cells.size = j := by
        rw [hs, hl, Nat.mul_comm, Nat.mul_add_mod, Nat.mod_eq_of_lt hj]
      have hj' : j < v.cells.size := by omega
      simp [hmod, hj']
    · cases hi

theorem wrap64_id {n : Int} (h0 : 0 ≤ n) (h1 : n < 9223372036854775808) : IntKind.i64.wrap n = n := by
  unfold IntKind.wrap IntKind.signed IntKind.bits
  simp
  omega

theorem mksl_sound (hr : Rel cx ι st a w) {o : Oper} {t e : TypeId} {l c : Operand} {l' c' : Opd} {z : List PV} {esz bytes : Nat} (ho : o.op = .makeSlice t l c)
    (hu : cx.P.underlying t = some (.slice e)) (hl : cOpd l = some l') (hc : cOpd c = some c') (hz : zeroT cx.P e = some z) (hs : szT cx.P e = some esz) (hb : bytesT cx.P e = some bytes)
    (hzl : z.length = esz) (hpos : 0 < esz) (hd : ∀ t, o.dst = some t → t < cx.n) {q : Bool} {k : St → Prop} (h : vro cx.E q (.mksl z esz bytes l' c') o.dst st k)
    {Q : Exit → Act → World → Prop} : o.wp cx.P a w (After cx q w k) Q := by
  have hlv := ev_sound hr.tm hl
  have hcv := ev_sound hr.tm hc
  obtain ⟨i0, v0, hi0, hz0, _, hzr, hzs⟩ := zeroT_sound (w := w) (ι := ι) hz
  have hb0 : i0.bytes = bytes := by unfold bytesT at hb; rw [hi0] at hb; simpa using hb
  have h : vmksl z esz bytes o.dst st (ev st l') (ev st c') k := h
  generalize ev st l' = al at h hlv
  generalize ev st c' = ac at h hcv
  unfold vmksl at h
  split at h
  · rename_i k1 n k2 m
    obtain ⟨⟨h0, h1, h2, h3⟩, h⟩ := h
    have e1 := RA_int hlv
    have e2 := RA_int hcv
    unfold roomMost at h2 h3
    have w1 : IntKind.i64.wrap n = n := wrap64_id h0 (by omega)
    have w2 : IntKind.i64.wrap m = m := wrap64_id (by omega) (by omega)
    have hrv := zero_rows (w := w) (ι := ι) hzr hzs hzl m.toNat
    have hcs : (m.toNat * esz = 0 → m.toNat = 0) := fun h => by
      rcases Nat.mul_eq_zero.1 h with h | h
      · exact h
      · omega
    have hbn : ¬ ((bytes : Int) * m > 2 ^ 48) := by
      rw [Int.mul_comm]; omega
    have hrun : (execOp a.eval o).run cx.P w = .ok (.value (.slice (some ⟨w.heap.size, 0, none⟩) n.toNat m.toNat))
        (pushW w (.cells ((List.range (m.toNat * esz)).map fun i => v0.cells[i % v0.cells.size]!).toArray e)) := by
      have ha : ((Array.range (m.toNat * esz)).map fun i => v0.cells[i % v0.cells.size]!) = ((List.range (m.toNat * esz)).map fun i => v0.cells[i % v0.cells.size]!).toArray := by
        apply Array.ext'; simp
      have hcond : ¬ (((m < 0 ∨ 281474976710656 < (bytes : Int) * m) ∨ n < 0) ∨ m < n) := by omega
      by_cases hz : m.toNat * esz = 0
      · have hm0 := hcs hz
        simp [execOp, ho, Instr.makeSlice, run_underlying hu, e1, e2, asInt, asIntOf, run_typeInfo hi0, hb0, w1, w2, run_sizeOf hs, newRow, hm0]
        rw [if_neg hcond]
        have em : (Array.map (fun _ => (default : Value)) (Array.range 0)) = #[] := by apply Array.ext'; simp
        rw [em]; rfl
      · simp [execOp, ho, Instr.makeSlice, run_underlying hu, e1, e2, asInt, asIntOf, run_typeInfo hi0, hb0, w1, w2, run_sizeOf hs, newRow, hz, run_zeroValue hi0 hz0, ha]
        rw [if_neg hcond]
        rfl
    have hblk := hrv.blk []
    simp only [List.append_nil] at hblk
    refine wp_value hrun (lay_sound' (q := q) hr hd rfl ⟨rfl, rfl⟩ (fun o _ h => by omega) hblk (fun ι2 h4 => ?_) h)
    have := RA.sl (w := pushW w (.cells ((List.range (m.toNat * esz)).map fun i => v0.cells[i % v0.cells.size]!).toArray e)) (ι := ι2) (wd := esz) (i := 0) (len := n.toNat) (cc := m.toNat) (cap := some m.toNat) h4
      (by omega) (fun k hk => by cases hk; rfl) (by simp)
    simpa using this
  · exact h.elim

theorem bytesOf_sound (hr : Rel cx ι st a w) {o : Oper} {s t e : TypeId} {x : Operand} {x' : Opd} (ho : o.op = .convert s t x)
    (hs : cx.P.underlying s = some .string) (ht : cx.P.underlying t = some (.slice e)) (he : cx.P.underlying e = some (.int .u8)) (hx : cOpd x = some x')
    (hd : ∀ t, o.dst = some t → t < cx.n) {q : Bool} {k : St → Prop} (h : vro cx.E q (.bytesOf x') o.dst st k)
    {Q : Exit → Act → World → Prop} : o.wp cx.P a w (After cx q w k) Q := by
  have hxv := ev_sound hr.tm hx
  have h : vbytesOf o.dst st (ev st x') k := h
  generalize ev st x' = ax at h hxv
  unfold vbytesOf at h
  split at h
  · rename_i l
    have ex := RA_str hxv
    -- the capacity that is drawn
    obtain ⟨cap, hcap, hcr⟩ : ∃ cap, l.length ≤ cap ∧ (choose (.appendCap l.length 0 e)).run cx.P w = .ok cap { w with drawn := w.drawn + 1 } :=
      ⟨l.length + w.tape w.drawn (.appendCap l.length 0 e) % (2 ^ 63 - l.length), by omega, by simp only [run_choose, Question.forced, Bool.false_eq_true, if_false, Question.cut]⟩
    let cs : Array Value := (l.map fun b => (Value.int .u8 b.toNat)).toArray ++ Array.replicate (cap - l.length) (.int .u8 0)
    have hcs : cs.size = cap := by simp [cs]; omega
    let w' : World := { w with drawn := w.drawn + 1, heap := w.heap.push (.cells cs e (cap, cap + 1)) }
    have hrun : (execOp a.eval o).run cx.P w = .ok (.value (.slice (some ⟨w.heap.size, 0, none⟩) l.length cap)) w' := by
      have e1 : (⟨⟨l⟩⟩ : ByteArray).size = l.length := rfl
      have e2 : ((⟨⟨l⟩⟩ : ByteArray).data.map fun b => (Value.int .u8 b.toNat)) = (l.map fun b => (Value.int .u8 b.toNat)).toArray := by
        apply Array.ext'; simp
      have e3 : ({ w with drawn := w.drawn + 1, heap := w.heap.push (.cells cs e) } : World).shape? w.heap.size = some (e, cap) := by
        simp [World.shape?, hcs]
      have e4 : ({ w with drawn := w.drawn + 1, heap := w.heap.push (.cells cs e) } : World).freeze ⟨w.heap.size, cap, none⟩ 1 = w' := by
        simp only [World.freeze, w']
        rw [if_neg (by omega)]
        congr 1
        apply Array.ext_getElem?
        intro j
        rw [Array.getElem?_modify]
        by_cases ej : w.heap.size = j
        · subst ej; simp
        · rw [if_neg ej]
          by_cases hlt : j < w.heap.size
          · rw [Array.getElem?_push_lt hlt, Array.getElem?_push_lt hlt]
          · rw [Array.getElem?_eq_none (by simp; omega), Array.getElem?_eq_none (by simp; omega)]
      simp only [execOp, ho, ex, convert, Sem.run_bind, run_underlying hs, run_underlying ht, run_underlying he, Result.andThen_ok, Conv.stringToBytes, e1, hcr, e2, newRow, run_newObj, Sem.run_pure, markStringish, run_shape]
      have e5 : ({ w with drawn := w.drawn + 1, heap := w.heap.push (.cells ((l.map fun b => (Value.int .u8 b.toNat)).toArray ++ Array.replicate (cap - l.length) (.int .u8 0)) e) } : World).shape? w.heap.size = some (e, cap) := e3
      simp only [e5, run_freeze, Result.andThen_ok]
      exact congrArg (Result.ok _) e4
    have hrv : RowVals w ι.M 1 (l.map encByte) (l.map fun b => (Value.int .u8 b.toNat)) := by
      refine ⟨by simp, fun i row hi => ?_, fun i row j x hi hx => ?_⟩
      · simp at hi; obtain ⟨b, _, rfl⟩ := hi; rfl
      · simp at hi
        obtain ⟨b, hb, rfl⟩ := hi
        cases j with
        | zero => simp [encByte] at hx; subst hx; exact ⟨rfl, .int .u8 b.toNat, by simp [hb], .int _ _⟩
        | succ j => simp [encByte] at hx
    have hblk := hrv.blk (List.replicate (cap - l.length) (Value.int .u8 0))
    have ecs : ((l.map fun b : UInt8 => (Value.int .u8 b.toNat)) ++ List.replicate (cap - l.length) (Value.int .u8 0)).toArray = cs := by
      apply Array.ext'; simp [cs]
    rw [ecs] at hblk
    refine wp_value hrun (lay_sound' (q := q) hr hd (fz := (cap, cap + 1)) rfl ⟨rfl, rfl⟩ (fun o ho' h => by omega) hblk (fun ι2 h4 => ?_) h)
    have := RA.sl (w := w') (ι := ι2) (wd := 1) (i := 0) (len := l.length) (cc := cap) (cap := none) h4 hcap (by simp) (by omega)
    simpa using this
  · exact h.elim

end
end Hk
