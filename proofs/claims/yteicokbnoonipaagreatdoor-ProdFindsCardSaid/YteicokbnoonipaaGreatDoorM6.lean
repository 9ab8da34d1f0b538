/- Texts of this claim, put together: DfArg, LaidG. -/
import Derived.Test.YteicokbnoonipaaGreatDoorM4
import Derived.Test.YteicokbnoonipaaGreatDoorM5
import Derived.Test.YteicokbnoonipaaGreatDoorM3
import Derived.Test.YteicokbnoonipaaGreatDoorRows
import Derived.Lib.LaidTab
namespace Hk
open Go Go.ChangeShapes Go.WideShapes Go.RowKit
set_option linter.unusedVariables false
set_option linter.unusedSimpArgs false
set_option maxRecDepth 100000
theorem u64_of {n : Int} (h : (Lit.int .u64 n).wf = true) : ∃ b : BitVec 64, PV.int .u64 n = u64 b := by
 simp [Lit.wf, IntKind.min, IntKind.max, IntKind.signed, IntKind.bits] at h
 refine ⟨BitVec.ofNat 64 n.toNat, congrArg (PV.int .u64) ?_⟩
 rw [BitVec.toNat_ofNat]
 omega
section
variable {P : Program} {tI tL : TypeId}
theorem PLeR.ints {rows : List (List PV)} {l : List Int} (h : rows = l.map fun z => [i64 z]) : rows = ints l := h
theorem ints_shp (hL : P.underlying tL = some (.slice tI)) (hI : P.underlying tI = some (.int .i64)) (hc : P.cellsOf tI = 1) {r : List PV} (h : Shp P tL r) : ∃ x l, r = [x] ∧ PLe x (.isl 1 (ints l) none) := by
 obtain ⟨w, rows, cap, rfl, hw, _, hr⟩ := h.sl_inv hL
 rcases hw with ⟨rfl, rfl, rfl⟩ | ⟨rfl, rfl⟩
 ·exact ⟨_, [], rfl, .nil (.inl rfl)⟩
 ·obtain ⟨l, rfl⟩ := rows_of (α := Int) (mk := fun z => [i64 z]) fun i q hq => by
   obtain ⟨n, rfl, _⟩ := (hr i q hq).int_inv hI
   exact ⟨n, rfl⟩
  rw [hc]
  exact ⟨_, l, rfl, .refl _⟩
theorem rows_ple {rows : List (List PV)} (h : ∀ (i : Nat) q, rows[i]? = some q → ∃ x l, q = [x] ∧ PLe x (.isl 1 (ints l) none)) : ∃ nx : List (List Int), PLeR rows (nx.map rowLs) := by
 induction rows with
 | nil => exact ⟨[], .refl _⟩
 | cons q r ih =>
   obtain ⟨x, l, rfl, hx⟩ := h 0 q rfl
   obtain ⟨nx, hn⟩ := ih fun i q' hq => h (i + 1) q' (by simpa using hq)
   exact ⟨l :: nx, .cons (.cons hx (.refl _)) hn⟩
theorem rows_shp {tR : TypeId} (hR : P.underlying tR = some (.slice tL)) (hL : P.underlying tL = some (.slice tI)) (hI : P.underlying tI = some (.int .i64)) (hc : P.cellsOf tI = 1) (hcL : P.cellsOf tL = 1) {r : List PV}
 (h : Shp P tR r) : ∃ (x : PV) (nx : List (List Int)), r = [x] ∧ PLe x (.isl 1 (nx.map rowLs) none) := by
 obtain ⟨w, rows, cap, rfl, hw, _, hr⟩ := h.sl_inv hR
 rcases hw with ⟨rfl, rfl, rfl⟩ | ⟨rfl, rfl⟩
 ·exact ⟨_, [], rfl, .nil (.inl rfl)⟩
 ·obtain ⟨nx, hn⟩ := rows_ple fun i q hq => ints_shp hL hI hc (hr i q hq)
  rw [hcL]
  exact ⟨_, nx, rfl, .isl hn (.inl rfl)⟩
theorem bytes_shp {tA tB : TypeId} (hA : P.underlying tA = some (.array 256 tB)) (hB : P.underlying tB = some (.int .u8)) {r : List PV} (h : Shp P tA r) : ∃ o : Nat → Nat, (∀ b, b < 256 → o b < 256) ∧ r = clsArr o := by
 obtain ⟨parts, rfl, hl, hr⟩ := h.arr_inv hA
 have ex : ∀ i, i < 256 → ∃ n : Nat, n < 256 ∧ parts[i]? = some [.int .u8 (n : Int)] := fun i hi => by
  have hg : parts[i]? = some parts[i] := List.getElem?_eq_getElem (by omega)
  obtain ⟨n, hn, hw⟩ := (hr i _ hg).int_inv hB
  simp [Lit.wf, IntKind.min, IntKind.max, IntKind.signed, IntKind.bits] at hw
  refine ⟨n.toNat, by omega, ?_⟩
  rw [hg, hn, Int.toNat_of_nonneg hw.1]
 let o : Nat → Nat := fun i => if h : i < 256 then (ex i h).choose else 0
 have ho : ∀ i (h : i < 256), o i < 256 ∧ parts[i]? = some [.int .u8 (o i : Int)] := fun i h => by
  show (if h : i < 256 then (ex i h).choose else 0) < 256 ∧ parts[i]? = some [.int .u8 ((if h : i < 256 then (ex i h).choose else 0 : Nat) : Int)]
  rw [dif_pos h]
  exact (ex i h).choose_spec
 refine ⟨o, fun b hb => (ho b hb).1, ?_⟩
 have e : parts = (List.range 256).map fun i => [PV.int .u8 (o i : Int)] := by
  apply List.ext_getElem?
  intro i
  by_cases hi : i < 256
  ·rw [(ho i hi).2, List.getElem?_map, List.getElem?_range hi]; rfl
  ·rw [List.getElem?_eq_none (by omega), List.getElem?_eq_none (by simp; omega)]
 have flat : ∀ l : List Nat, (l.map fun i => [PV.int .u8 (o i : Int)]).flatten = l.map fun i => PV.int .u8 (o i : Int) := fun l => by
  induction l with
  | nil => rfl
  | cons a l ih => simp only [List.map_cons, List.flatten_cons, ih, List.singleton_append]
 rw [e, flat]
 unfold clsArr
 rfl
variable {tD tC tR tA tB : TypeId} {fD fC : Array Field}
theorem PLeL.app {a b c d : List PV} (h : PLeL a b) (h' : PLeL c d) : PLeL (a ++ c) (b ++ d) := by
 induction a generalizing b with
 | nil => have := h.len; cases b with
   | nil => exact h'
   | cons y b => simp at this
 | cons x a ih =>
   cases h with
   | refl => exact .cons (.refl _) (ih (.refl _))
   | cons h1 h2 => exact .cons h1 (ih h2)
theorem dfa_arg (hD : P.underlying tD = some (.struct fD)) (hDs : fD.size = 3) (d0 : ∀ f, fD[0]? = some f → f.type = tC) (d1 : ∀ f, fD[1]? = some f → f.type = tR) (d2 : ∀ f, fD[2]? = some f → f.type = tL)
 (hC : P.underlying tC = some (.struct fC)) (hCs : fC.size = 2) (c0 : ∀ f, fC[0]? = some f → f.type = tA) (c1 : ∀ f, fC[1]? = some f → f.type = tI)
 (hA : P.underlying tA = some (.array 256 tB)) (hB : P.underlying tB = some (.int .u8)) (hR : P.underlying tR = some (.slice tL)) (hL : P.underlying tL = some (.slice tI)) (hI : P.underlying tI = some (.int .i64))
 (hc : P.cellsOf tI = 1) (hcL : P.cellsOf tL = 1) {x : PV} (h : ArgShp P tD x) {w : World} {M : Nat → Prop} {v : Value} (hv : RP w M x v) :
 ∃ d : Dfa, (∀ b, b < 256 → d.o b < 256) ∧ RP w M d.pv v := by
 obtain ⟨xs, rfl, hs⟩ := h.agg_inv (by simp [aggT, hD])
 obtain ⟨parts, rfl, hn, hr⟩ := hs.struct_inv hD
 have fld : ∀ i, i < 3 → ∃ f, fD[i]? = some f := fun i hi => ⟨_, Array.getElem?_eq_getElem (by omega)⟩
 have fld2 : ∀ i, i < 2 → ∃ f, fC[i]? = some f := fun i hi => ⟨_, Array.getElem?_eq_getElem (by omega)⟩
 match parts, hn, hr with
 | [], hn, _ => rw [hDs] at hn; cases hn
 | [_], hn, _ => rw [hDs] at hn; cases hn
 | [_, _], hn, _ => rw [hDs] at hn; cases hn
 | _ :: _ :: _ :: _ :: _, hn, _ => rw [hDs] at hn; simp at hn
 | [p0, p1, p2], hn, hr =>
   obtain ⟨f0, e0⟩ := fld 0 (by decide)
   obtain ⟨f1, e1⟩ := fld 1 (by decide)
   obtain ⟨f2, e2⟩ := fld 2 (by decide)
   have s0 := d0 f0 e0 ▸ hr 0 f0 p0 e0 rfl
   have s1 := d1 f1 e1 ▸ hr 1 f1 p1 e1 rfl
   have s2 := d2 f2 e2 ▸ hr 2 f2 p2 e2 rfl
   obtain ⟨nx, nl, rfl, hnx⟩ := rows_shp hR hL hI hc hcL s1
   obtain ⟨tg, tl, rfl, htg⟩ := ints_shp hL hI hc s2
   obtain ⟨cp, rfl, hcn, hcr⟩ := s0.struct_inv hC
   match cp, hcn, hcr with
   | [], hcn, _ => rw [hCs] at hcn; cases hcn
   | [_], hcn, _ => rw [hCs] at hcn; cases hcn
   | _ :: _ :: _ :: _, hcn, _ => rw [hCs] at hcn; simp at hcn
   | [q0, q1], hcn, hcr =>
     obtain ⟨g0, k0⟩ := fld2 0 (by decide)
     obtain ⟨g1, k1⟩ := fld2 1 (by decide)
     obtain ⟨o, ho, rfl⟩ := bytes_shp hA hB (c0 g0 k0 ▸ hcr 0 g0 q0 k0 rfl)
     obtain ⟨n, rfl, _⟩ := (c1 g1 k1 ▸ hcr 1 g1 q1 k1 rfl).int_inv hI
     refine ⟨⟨o, n, nl, tl⟩, ho, PLe.sound hv (.agg ?_)⟩
     have e : [[clsArr o, [PV.int .i64 n]].flatten, [nx], [tg]].flatten = clsArr o ++ ([i64 n] ++ ([nx] ++ [tg])) := by simp
     rw [e]
     exact PLeL.app (.refl _) (PLeL.app (.refl _) (.cons hnx (.cons htg (.refl _))))
theorem set_arg {tS tU : TypeId} (hS : P.underlying tS = some (.array 4 tU)) (hU : P.underlying tU = some (.int .u64)) {x : PV} (h : ArgShp P tS x) : ∃ s : Set4, x = .agg s.cells := by
 obtain ⟨xs, rfl, hs⟩ := h.agg_inv (by simp [aggT, hS])
 obtain ⟨sp, rfl, hsn, hsr⟩ := hs.arr_inv hS
 match sp, hsn, hsr with
 | [s0, s1, s2, s3], _, hsr =>
   obtain ⟨n0, rfl, w0⟩ := (hsr 0 s0 rfl).int_inv hU
   obtain ⟨n1, rfl, w1⟩ := (hsr 1 s1 rfl).int_inv hU
   obtain ⟨n2, rfl, w2⟩ := (hsr 2 s2 rfl).int_inv hU
   obtain ⟨n3, rfl, w3⟩ := (hsr 3 s3 rfl).int_inv hU
   obtain ⟨b0, eb0⟩ := u64_of w0
   obtain ⟨b1, eb1⟩ := u64_of w1
   obtain ⟨b2, eb2⟩ := u64_of w2
   obtain ⟨b3, eb3⟩ := u64_of w3
   rw [eb0, eb1, eb2, eb3]
   exact ⟨⟨b0, b1, b2, b3⟩, rfl⟩
end
end Hk
namespace Hk
open Go Go.Proofs
set_option linter.unusedVariables false
set_option linter.unusedSimpArgs false
set_option maxRecDepth 100000
theorem gTab : Tryz.prog.globalNamed "math/bits.deBruijn64tab" = some 0 := by kernel_rfl
theorem gTabType : (Tryz.prog.globals[0]?).map (·.type) = some 296 := by kernel_rfl
def dbZ : List Int := Lib.deBruijn64tab.map fun (k : Nat) => (k : Int)
theorem dbZ_eq : gDB = dbZ.map fun z => PV.int .u8 z := rfl
theorem glb_of {W : World} (h : laidMet Tryz.prog [("math/bits.deBruijn64tab", Go.Proofs.YteicokbnoonipaaGreatDoor.Rows.laid_math_bits_deBruijn64tab)] W) : Glb W noInj.M := by
 have hT : Lib.TabIs Tryz.prog W "math/bits.deBruijn64tab" .u8 dbZ :=
  Lib.tabIs_of_head (rest := []) gTab gTabType Tryz.underlying296 Tryz.underlying5 (by kernel_rfl) (by kernel_rfl) h
 have hcell : ∀ i, i < 64 → W.cell? ⟨0, i, none⟩ = some (.int .u8 (dbZ.getD i 0)) := fun i hi => hT.cell gTab i hi
 intro g row hg
 obtain ⟨rfl, rfl⟩ : g = 0 ∧ row = gDB := by
  have := List.mem_singleton.1 hg
  exact ⟨congrArg Prod.fst this, congrArg Prod.snd this⟩
 refine ⟨noInj_M _, ?_, fun i x hx => ?_⟩
 ·have h0 := hcell 0 (by decide)
  by_cases hs : 0 < W.heap.size
  ·exact hs
  ·exfalso
   unfold World.cell? at h0
   rw [show W.heap[(⟨0, 0, none⟩ : Addr).block]? = none from Array.getElem?_eq_none (by show W.heap.size ≤ 0; omega)] at h0
   cases h0
 ·rw [dbZ_eq, List.getElem?_map] at hx
  obtain ⟨z, hz, rfl⟩ := Option.map_eq_some_iff.1 hx
  have hi : i < 64 := (List.getElem?_eq_some_iff.1 hz).1
  refine ⟨rfl, _, hcell i hi, ?_⟩
  rw [List.getD_eq_getElem?_getD, hz]
  exact .int _ _
end Hk
