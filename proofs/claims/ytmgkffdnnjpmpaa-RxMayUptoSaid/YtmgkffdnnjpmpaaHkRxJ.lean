/- The walk: where texts of a tree end. -/
import Derived.Test.YtmgkffdnnjpmpaaHkRxI
namespace Hk
open Go Go.Proofs
set_option linter.unusedVariables false
set_option linter.unusedSimpArgs false
set_option maxRecDepth 100000

def brows (n : Nat) (f : Pl) : List (List PV) := (List.range (n + 1)).map fun k => [.b (f k)]
def bools (n : Nat) (f : Pl) : PV := .isl 1 (brows n f) none

theorem brows_len (n : Nat) (f : Pl) : (brows n f).length = n + 1 := by simp [brows]
theorem brows_get {n : Nat} {f : Pl} {k : Nat} (h : k ≤ n) : (brows n f)[k]? = some [.b (f k)] := by
  simp [brows, List.getElem?_map, List.getElem?_range (show k < n + 1 by omega)]
theorem brows_congr {n : Nat} {f g : Pl} (h : ∀ k, k ≤ n → f k = g k) : brows n f = brows n g := by
  unfold brows
  apply List.map_congr_left
  intro k hk
  rw [h k (by simpa [Nat.lt_succ_iff] using hk)]
theorem brows_set {n : Nat} {f g : Pl} {k : Nat} {v : Bool} (h : ∀ j, j ≤ n → j ≠ k → f j = g j) (hv : g k = v) (hk : k ≤ n) : (brows n f).set k [.b v] = brows n g := by
  apply List.ext_getElem?
  intro i
  rw [List.getElem?_set]
  by_cases h1 : k = i
  · subst h1
    rw [if_pos rfl, if_pos (by rw [brows_len]; omega), brows_get hk, hv]
  · rw [if_neg h1]
    rcases Nat.lt_or_ge i (n + 1) with h2 | h2
    · rw [brows_get (by omega), brows_get (by omega), h i (by omega) (fun e => h1 e.symm)]
    · rw [List.getElem?_eq_none (by rw [brows_len]; omega), List.getElem?_eq_none (by rw [brows_len]; omega)]
theorem brows_none (n : Nat) : brows n (fun _ => false) = List.replicate (n + 1) [.b false] := by
  apply List.ext_getElem?
  intro i
  rcases Nat.lt_or_ge i (n + 1) with h | h
  · rw [brows_get (by omega), List.getElem?_replicate, if_pos h]
  · rw [List.getElem?_eq_none (by rw [brows_len]; omega), List.getElem?_eq_none (by simp; omega)]

theorem Tr.ends0 (s set sub lo hi) : (Tr.mk 0 set sub lo hi).ends s = id := by rw [Tr.ends, if_pos rfl]
theorem Tr.ends1 (s set sub lo hi) : (Tr.mk 1 set sub lo hi).ends s = oneE s set := by rw [Tr.ends, if_neg (by decide), if_pos rfl]
theorem Tr.ends2 (s set sub lo hi) : (Tr.mk 2 set sub lo hi).ends s = comp (sub.map (Tr.ends s)) := by
  rw [Tr.ends, if_neg (by decide), if_neg (by decide), if_pos rfl, Tr.endsL_eq]
theorem Tr.ends3 (s set sub lo hi) : (Tr.mk 3 set sub lo hi).ends s = fun f j => sub.any fun t => t.ends s f j := by
  rw [Tr.ends, if_neg (by decide), if_neg (by decide), if_neg (by decide), if_pos rfl, Tr.endsL_eq]
  funext f j
  rw [List.any_map]
  rfl
theorem Tr.ends4 (s set t lo hi) : (Tr.mk 4 set [t] lo hi).ends s = repE (t.ends s) lo.toNat (most s lo hi).toNat := by
  rw [Tr.ends, if_neg (by decide), if_neg (by decide), if_neg (by decide), if_neg (by decide), Tr.endsL_eq]
  rfl

/-- Till a place. -/
def till (i : Nat) (g : Pl) : Pl := fun j => if j ≤ i then g j else false

theorem ends_fn (s : List UInt8) (hs : s.length < 2 ^ 20) (T : Tr) (hT : T.Fit) (hok : T.ok = true) (f : Pl) : PF Try.prog 75 [T.pv, .str s, bools s.length f] (bools s.length (T.ends s f)) := by
  induction T using Tr.ind' generalizing f with | h k set sub lo hi ih => ?_
  have hk := ok_kinds hok
  have hl := Tr.rows_len sub
  have hn := hT.len
  have hbl : ∀ g, (brows s.length g).length = s.length + 1 := brows_len _
  have hbf := hbl f
  have hs1 : intAr .add .i64 (s.length : Int) 1 = ((s.length + 1 : Nat) : Int) := by rw [add64 (by omega) (by omega)]; omega
  have hroom : (0 ≤ ((s.length + 1 : Nat) : Int) ∧ ((s.length + 1 : Nat) : Int) ≤ ((s.length + 1 : Nat) : Int) ∧ ((s.length + 1 : Nat) : Int) * ((1 : Nat) : Int) ≤ ((roomMost : Nat) : Int) ∧ ((s.length + 1 : Nat) : Int) ≤ ((roomMost : Nat) : Int)) := by
    unfold roomMost; omega
  have hz : List.replicate ((s.length + 1 : Nat) : Int).toNat [PV.b false] = brows s.length (fun _ => false) := by rw [brows_none, Int.toNat_natCast]
  by_cases k0 : k = 0
  · subst k0
    rw [Tr.ends0]
    refine pf_intro rf75_eq rmixed rfl ?_
    ((conv => whnf) <;> (repeat (first | (refine And.intro (by first | omega | exact rfl | exact trivial | exact Nat.le_of_ble_eq_true rfl | (simp only [List.length_cons, List.length_nil]; omega)) ?_; conv => whnf) | (refine And.intro ?_ trivial; conv => whnf) | ((with_reducible refine bk_true ?_); conv => whnf) | ((with_reducible refine bk_false ?_); conv => whnf) | (refine ex_get rfl ?_; conv => whnf) | (refine ex_cs rfl rfl ?_; conv => whnf) | ((with_reducible refine bk_nt ?_); conv => whnf) | ((with_reducible refine bk_nf ?_); conv => whnf))))
    rw [hs1]
    refine bk_is (eqlT rfl) ?_
    ((conv => whnf) <;> (repeat (first | (refine And.intro (by first | omega | exact rfl | exact trivial | exact Nat.le_of_ble_eq_true rfl | (simp only [List.length_cons, List.length_nil]; omega)) ?_; conv => whnf) | (refine And.intro ?_ trivial; conv => whnf) | ((with_reducible refine bk_true ?_); conv => whnf) | ((with_reducible refine bk_false ?_); conv => whnf) | (refine ex_get rfl ?_; conv => whnf) | (refine ex_cs rfl rfl ?_; conv => whnf) | ((with_reducible refine bk_nt ?_); conv => whnf) | ((with_reducible refine bk_nf ?_); conv => whnf))))
    refine And.intro (by simp) ?_
    ((conv => whnf) <;> (repeat (first | (refine And.intro (by first | omega | exact rfl | exact trivial | exact Nat.le_of_ble_eq_true rfl | (simp only [List.length_cons, List.length_nil]; omega)) ?_; conv => whnf) | (refine And.intro ?_ trivial; conv => whnf) | ((with_reducible refine bk_true ?_); conv => whnf) | ((with_reducible refine bk_false ?_); conv => whnf) | (refine ex_get rfl ?_; conv => whnf) | (refine ex_cs rfl rfl ?_; conv => whnf) | ((with_reducible refine bk_nt ?_); conv => whnf) | ((with_reducible refine bk_nf ?_); conv => whnf))))
    refine ⟨.p (bools s.length f), [], ⟨rfl, rfl⟩, ⟨rfl, rfl⟩, KLe.fsl (rs := brows s.length f) rfl rfl ?_ ?_ (.refl _), .nil _⟩
    · show List.take _ (List.take 0 _ ++ List.take _ (brows _ _) ++ List.drop _ _) = _
      rw [hbf, Int.toNat_natCast, Nat.min_self, List.take_zero, List.nil_append, List.drop_of_length_le (by simp), List.append_nil, List.take_take, Nat.min_self, take_all (by rw [hbf]; omega)]
    · rw [hbf, Int.toNat_natCast]
  by_cases k1 : k = 1
  · subst k1
    rw [Tr.ends1]
    refine pf_intro rf75_eq rmixed rfl ?_
    ((conv => whnf) <;> (repeat (first | (refine And.intro (by first | omega | exact rfl | exact trivial | exact Nat.le_of_ble_eq_true rfl | (simp only [List.length_cons, List.length_nil]; omega)) ?_; conv => whnf) | (refine And.intro ?_ trivial; conv => whnf) | ((with_reducible refine bk_true ?_); conv => whnf) | ((with_reducible refine bk_false ?_); conv => whnf) | (refine ex_get rfl ?_; conv => whnf) | (refine ex_cs rfl rfl ?_; conv => whnf) | ((with_reducible refine bk_nt ?_); conv => whnf) | ((with_reducible refine bk_nf ?_); conv => whnf))))
    rw [hs1]
    refine bk_is (eqlF (by omega)) ?_
    ((conv => whnf) <;> (repeat (first | (refine And.intro (by first | omega | exact rfl | exact trivial | exact Nat.le_of_ble_eq_true rfl | (simp only [List.length_cons, List.length_nil]; omega)) ?_; conv => whnf) | (refine And.intro ?_ trivial; conv => whnf) | ((with_reducible refine bk_true ?_); conv => whnf) | ((with_reducible refine bk_false ?_); conv => whnf) | (refine ex_get rfl ?_; conv => whnf) | (refine ex_cs rfl rfl ?_; conv => whnf) | ((with_reducible refine bk_nt ?_); conv => whnf) | ((with_reducible refine bk_nf ?_); conv => whnf))))
    refine bk_is (eqlT rfl) ?_
    ((conv => whnf) <;> (repeat (first | (refine And.intro (by first | omega | exact rfl | exact trivial | exact Nat.le_of_ble_eq_true rfl | (simp only [List.length_cons, List.length_nil]; omega)) ?_; conv => whnf) | (refine And.intro ?_ trivial; conv => whnf) | ((with_reducible refine bk_true ?_); conv => whnf) | ((with_reducible refine bk_false ?_); conv => whnf) | (refine ex_get rfl ?_; conv => whnf) | (refine ex_cs rfl rfl ?_; conv => whnf) | ((with_reducible refine bk_nt ?_); conv => whnf) | ((with_reducible refine bk_nf ?_); conv => whnf))))
    refine ⟨[], Nat, fun i => ⟨[(1, .p (.str s)), (2, .p (bools s.length f)), (3, .ptr 0 8 0 0), (7, .sl 1 1 0 (s.length + 1) none), (8, .p (i64 i))],
        [Tr.blk 1 set sub lo hi, .pr 1 (brows s.length (till i (oneE s set f)))]⟩,
      fun i => i ≤ s.length, fun i => s.length - i, ⟨0, Nat.zero_le _, ?_⟩, fun i hi' => ?_⟩
    · (refine ⟨⟨rfl, rfl⟩, ?_, ?_⟩ <;> (repeat' (first | exact TLe.nil | exact HLe.nil _ | refine TLe.cons ?_ ?_ | refine HLe.cons ?_ ?_ | exact KLe.ptr rfl | exact KLe.sl rfl (.inl rfl) | exact KLe.csl rfl | refine KLe.pe ?_ | refine BLe.pe ?_ | refine BLe.mx ?_ | exact KLeL.nil | refine KLe.fn ?_ ?_ | refine KLeL.cons ?_ ?_ | exact KLe.und _ | exact BLe.dead _)) <;> (try with_reducible rfl))
      all_goals first | rfl | skip
      rw [hz]
      exact brows_congr fun k hk => by
        cases k with
        | zero => rfl
        | succ k => rfl
    · have hi' : i ≤ s.length := hi'
      ((conv => whnf) <;> (repeat (first | (refine And.intro (by first | omega | exact rfl | exact trivial | exact Nat.le_of_ble_eq_true rfl | (simp only [List.length_cons, List.length_nil]; omega)) ?_; conv => whnf) | (refine And.intro ?_ trivial; conv => whnf) | ((with_reducible refine bk_true ?_); conv => whnf) | ((with_reducible refine bk_false ?_); conv => whnf) | (refine ex_get rfl ?_; conv => whnf) | (refine ex_cs rfl rfl ?_; conv => whnf) | ((with_reducible refine bk_nt ?_); conv => whnf) | ((with_reducible refine bk_nf ?_); conv => whnf))))
      (refine bk_split (fun hb => ?_) (fun hb => ?_))
      · have hlt : i < s.length := by have := lss_t hb; omega
        obtain ⟨c, hc⟩ : ∃ c, s[i]? = some c := ⟨_, List.getElem?_eq_getElem hlt⟩
        have hc8 := c.toNat_lt
        have hi1 : intAr .add .i64 (i : Int) 1 = ((i + 1 : Nat) : Int) := by rw [add64 (by omega) (by omega)]; omega
        ((conv => whnf) <;> (repeat (first | (refine And.intro (by first | omega | exact rfl | exact trivial | exact Nat.le_of_ble_eq_true rfl | (simp only [List.length_cons, List.length_nil]; omega)) ?_; conv => whnf) | (refine And.intro ?_ trivial; conv => whnf) | ((with_reducible refine bk_true ?_); conv => whnf) | ((with_reducible refine bk_false ?_); conv => whnf) | (refine ex_get rfl ?_; conv => whnf) | (refine ex_cs rfl rfl ?_; conv => whnf) | ((with_reducible refine bk_nt ?_); conv => whnf) | ((with_reducible refine bk_nf ?_); conv => whnf))))
        refine ⟨[.b (f i)], by rw [Int.toNat_natCast]; exact brows_get (by omega), ?_⟩
        ((conv => whnf) <;> (repeat (first | (refine And.intro (by first | omega | exact rfl | exact trivial | exact Nat.le_of_ble_eq_true rfl | (simp only [List.length_cons, List.length_nil]; omega)) ?_; conv => whnf) | (refine And.intro ?_ trivial; conv => whnf) | ((with_reducible refine bk_true ?_); conv => whnf) | ((with_reducible refine bk_false ?_); conv => whnf) | (refine ex_get rfl ?_; conv => whnf) | (refine ex_cs rfl rfl ?_; conv => whnf) | ((with_reducible refine bk_nt ?_); conv => whnf) | ((with_reducible refine bk_nf ?_); conv => whnf))))
        (refine bk_split (fun hb => ?_) (fun hb => ?_))
        · ((conv => whnf) <;> (repeat (first | (refine And.intro (by first | omega | exact rfl | exact trivial | exact Nat.le_of_ble_eq_true rfl | (simp only [List.length_cons, List.length_nil]; omega)) ?_; conv => whnf) | (refine And.intro ?_ trivial; conv => whnf) | ((with_reducible refine bk_true ?_); conv => whnf) | ((with_reducible refine bk_false ?_); conv => whnf) | (refine ex_get rfl ?_; conv => whnf) | (refine ex_cs rfl rfl ?_; conv => whnf) | ((with_reducible refine bk_nt ?_); conv => whnf) | ((with_reducible refine bk_nf ?_); conv => whnf))))
          refine ⟨c, by rw [Int.toNat_natCast]; exact hc, ?_⟩
          ((conv => whnf) <;> (repeat (first | (refine And.intro (by first | omega | exact rfl | exact trivial | exact Nat.le_of_ble_eq_true rfl | (simp only [List.length_cons, List.length_nil]; omega)) ?_; conv => whnf) | (refine And.intro ?_ trivial; conv => whnf) | ((with_reducible refine bk_true ?_); conv => whnf) | ((with_reducible refine bk_false ?_); conv => whnf) | (refine ex_get rfl ?_; conv => whnf) | (refine ex_cs rfl rfl ?_; conv => whnf) | ((with_reducible refine bk_nt ?_); conv => whnf) | ((with_reducible refine bk_nf ?_); conv => whnf))))
          refine vcall_pf (has_fn set c.toNat (by omega)) rfl (congrArg (fun x => [PV.agg set.cells, PV.int .i64 x]) (wrap_i64 (by omega) (by omega))) ?_
          ((conv => whnf) <;> (repeat (first | (refine And.intro (by first | omega | exact rfl | exact trivial | exact Nat.le_of_ble_eq_true rfl | (simp only [List.length_cons, List.length_nil]; omega)) ?_; conv => whnf) | (refine And.intro ?_ trivial; conv => whnf) | ((with_reducible refine bk_true ?_); conv => whnf) | ((with_reducible refine bk_false ?_); conv => whnf) | (refine ex_get rfl ?_; conv => whnf) | (refine ex_cs rfl rfl ?_; conv => whnf) | ((with_reducible refine bk_nt ?_); conv => whnf) | ((with_reducible refine bk_nf ?_); conv => whnf))))
          rw [hi1]
          refine ⟨[.b (till i (oneE s set f) (i + 1))], by rw [Nat.zero_add, Int.toNat_natCast]; exact brows_get (by omega), rfl, Nat.le_refl _, ?_⟩
          ((conv => whnf) <;> (repeat (first | (refine And.intro (by first | omega | exact rfl | exact trivial | exact Nat.le_of_ble_eq_true rfl | (simp only [List.length_cons, List.length_nil]; omega)) ?_; conv => whnf) | (refine And.intro ?_ trivial; conv => whnf) | ((with_reducible refine bk_true ?_); conv => whnf) | ((with_reducible refine bk_false ?_); conv => whnf) | (refine ex_get rfl ?_; conv => whnf) | (refine ex_cs rfl rfl ?_; conv => whnf) | ((with_reducible refine bk_nt ?_); conv => whnf) | ((with_reducible refine bk_nf ?_); conv => whnf))))
          refine ⟨i + 1, hlt, (show s.length - (i + 1) < s.length - i by omega), ?_⟩
          (refine ⟨⟨rfl, rfl⟩, ?_, ?_⟩ <;> (repeat' (first | exact TLe.nil | exact HLe.nil _ | refine TLe.cons ?_ ?_ | refine HLe.cons ?_ ?_ | exact KLe.ptr rfl | exact KLe.sl rfl (.inl rfl) | exact KLe.csl rfl | refine KLe.pe ?_ | refine BLe.pe ?_ | refine BLe.mx ?_ | exact KLeL.nil | refine KLe.fn ?_ ?_ | refine KLeL.cons ?_ ?_ | exact KLe.und _ | exact BLe.dead _)) <;> (try with_reducible rfl))
          all_goals first | ((refine congrArg (PV.int IntKind.i64) ?_) <;> (first | rfl | omega | (rw [add64 (by omega) (by omega)]; omega) | (rw [sub64 (by omega) (by omega)]; omega))) | skip
          rw [Nat.zero_add, Int.toNat_natCast]
          refine brows_set (v := set.has c.toNat) (fun j hj hne => ?_) ?_ hlt
          · unfold till
            by_cases h1 : j ≤ i
            · rw [if_pos h1, if_pos (by omega)]
            · rw [if_neg h1, if_neg (by omega)]
          · unfold till
            rw [if_pos (Nat.le_refl _)]
            show (f i && (match s[i]? with | some c => set.has c.toNat | none => false)) = _
            rw [hc, hb, Bool.true_and]
        · ((conv => whnf) <;> (repeat (first | (refine And.intro (by first | omega | exact rfl | exact trivial | exact Nat.le_of_ble_eq_true rfl | (simp only [List.length_cons, List.length_nil]; omega)) ?_; conv => whnf) | (refine And.intro ?_ trivial; conv => whnf) | ((with_reducible refine bk_true ?_); conv => whnf) | ((with_reducible refine bk_false ?_); conv => whnf) | (refine ex_get rfl ?_; conv => whnf) | (refine ex_cs rfl rfl ?_; conv => whnf) | ((with_reducible refine bk_nt ?_); conv => whnf) | ((with_reducible refine bk_nf ?_); conv => whnf))))
          rw [hi1]
          refine ⟨[.b (till i (oneE s set f) (i + 1))], by rw [Nat.zero_add, Int.toNat_natCast]; exact brows_get (by omega), rfl, Nat.le_refl _, ?_⟩
          ((conv => whnf) <;> (repeat (first | (refine And.intro (by first | omega | exact rfl | exact trivial | exact Nat.le_of_ble_eq_true rfl | (simp only [List.length_cons, List.length_nil]; omega)) ?_; conv => whnf) | (refine And.intro ?_ trivial; conv => whnf) | ((with_reducible refine bk_true ?_); conv => whnf) | ((with_reducible refine bk_false ?_); conv => whnf) | (refine ex_get rfl ?_; conv => whnf) | (refine ex_cs rfl rfl ?_; conv => whnf) | ((with_reducible refine bk_nt ?_); conv => whnf) | ((with_reducible refine bk_nf ?_); conv => whnf))))
          refine ⟨i + 1, hlt, (show s.length - (i + 1) < s.length - i by omega), ?_⟩
          (refine ⟨⟨rfl, rfl⟩, ?_, ?_⟩ <;> (repeat' (first | exact TLe.nil | exact HLe.nil _ | refine TLe.cons ?_ ?_ | refine HLe.cons ?_ ?_ | exact KLe.ptr rfl | exact KLe.sl rfl (.inl rfl) | exact KLe.csl rfl | refine KLe.pe ?_ | refine BLe.pe ?_ | refine BLe.mx ?_ | exact KLeL.nil | refine KLe.fn ?_ ?_ | refine KLeL.cons ?_ ?_ | exact KLe.und _ | exact BLe.dead _)) <;> (try with_reducible rfl))
          all_goals first | ((refine congrArg (PV.int IntKind.i64) ?_) <;> (first | rfl | omega | (rw [add64 (by omega) (by omega)]; omega) | (rw [sub64 (by omega) (by omega)]; omega))) | skip
          rw [Nat.zero_add, Int.toNat_natCast]
          refine brows_set (v := false) (fun j hj hne => ?_) ?_ hlt
          · unfold till
            by_cases h1 : j ≤ i
            · rw [if_pos h1, if_pos (by omega)]
            · rw [if_neg h1, if_neg (by omega)]
          · unfold till
            rw [if_pos (Nat.le_refl _)]
            show (f i && (match s[i]? with | some c => set.has c.toNat | none => false)) = _
            rw [hc, hb, Bool.false_and]
      · have hie : i = s.length := by have := lss_f hb; omega
        ((conv => whnf) <;> (repeat (first | (refine And.intro (by first | omega | exact rfl | exact trivial | exact Nat.le_of_ble_eq_true rfl | (simp only [List.length_cons, List.length_nil]; omega)) ?_; conv => whnf) | (refine And.intro ?_ trivial; conv => whnf) | ((with_reducible refine bk_true ?_); conv => whnf) | ((with_reducible refine bk_false ?_); conv => whnf) | (refine ex_get rfl ?_; conv => whnf) | (refine ex_cs rfl rfl ?_; conv => whnf) | ((with_reducible refine bk_nt ?_); conv => whnf) | ((with_reducible refine bk_nf ?_); conv => whnf))))
        refine ⟨.p (bools s.length (oneE s set f)), [], ⟨rfl, rfl⟩, ⟨rfl, rfl⟩, KLe.fsl (rs := brows s.length (oneE s set f)) rfl rfl ?_ (hbl _) (.refl _), .nil _⟩
        exact (take_all (l := brows s.length (till i (oneE s set f))) (by rw [hbl]; exact Nat.le_refl _)).trans (brows_congr fun k hk => by unfold till; rw [if_pos (by omega)])
  by_cases k2 : k = 2
  · subst k2
    rw [Tr.ends2]
    refine pf_intro rf75_eq rmixed rfl ?_
    ((conv => whnf) <;> (repeat (first | (refine And.intro (by first | omega | exact rfl | exact trivial | exact Nat.le_of_ble_eq_true rfl | (simp only [List.length_cons, List.length_nil]; omega)) ?_; conv => whnf) | (refine And.intro ?_ trivial; conv => whnf) | ((with_reducible refine bk_true ?_); conv => whnf) | ((with_reducible refine bk_false ?_); conv => whnf) | (refine ex_get rfl ?_; conv => whnf) | (refine ex_cs rfl rfl ?_; conv => whnf) | ((with_reducible refine bk_nt ?_); conv => whnf) | ((with_reducible refine bk_nf ?_); conv => whnf))))
    rw [hs1]
    refine bk_is (eqlF (by omega)) ?_
    ((conv => whnf) <;> (repeat (first | (refine And.intro (by first | omega | exact rfl | exact trivial | exact Nat.le_of_ble_eq_true rfl | (simp only [List.length_cons, List.length_nil]; omega)) ?_; conv => whnf) | (refine And.intro ?_ trivial; conv => whnf) | ((with_reducible refine bk_true ?_); conv => whnf) | ((with_reducible refine bk_false ?_); conv => whnf) | (refine ex_get rfl ?_; conv => whnf) | (refine ex_cs rfl rfl ?_; conv => whnf) | ((with_reducible refine bk_nt ?_); conv => whnf) | ((with_reducible refine bk_nf ?_); conv => whnf))))
    refine bk_is (eqlF (by omega)) ?_
    ((conv => whnf) <;> (repeat (first | (refine And.intro (by first | omega | exact rfl | exact trivial | exact Nat.le_of_ble_eq_true rfl | (simp only [List.length_cons, List.length_nil]; omega)) ?_; conv => whnf) | (refine And.intro ?_ trivial; conv => whnf) | ((with_reducible refine bk_true ?_); conv => whnf) | ((with_reducible refine bk_false ?_); conv => whnf) | (refine ex_get rfl ?_; conv => whnf) | (refine ex_cs rfl rfl ?_; conv => whnf) | ((with_reducible refine bk_nt ?_); conv => whnf) | ((with_reducible refine bk_nf ?_); conv => whnf))))
    refine bk_is (eqlT rfl) ?_
    ((conv => whnf) <;> (repeat (first | (refine And.intro (by first | omega | exact rfl | exact trivial | exact Nat.le_of_ble_eq_true rfl | (simp only [List.length_cons, List.length_nil]; omega)) ?_; conv => whnf) | (refine And.intro ?_ trivial; conv => whnf) | ((with_reducible refine bk_true ?_); conv => whnf) | ((with_reducible refine bk_false ?_); conv => whnf) | (refine ex_get rfl ?_; conv => whnf) | (refine ex_cs rfl rfl ?_; conv => whnf) | ((with_reducible refine bk_nt ?_); conv => whnf) | ((with_reducible refine bk_nf ?_); conv => whnf))))
    refine And.intro (by simp) ?_
    ((conv => whnf) <;> (repeat (first | (refine And.intro (by first | omega | exact rfl | exact trivial | exact Nat.le_of_ble_eq_true rfl | (simp only [List.length_cons, List.length_nil]; omega)) ?_; conv => whnf) | (refine And.intro ?_ trivial; conv => whnf) | ((with_reducible refine bk_true ?_); conv => whnf) | ((with_reducible refine bk_false ?_); conv => whnf) | (refine ex_get rfl ?_; conv => whnf) | (refine ex_cs rfl rfl ?_; conv => whnf) | ((with_reducible refine bk_nt ?_); conv => whnf) | ((with_reducible refine bk_nf ?_); conv => whnf))))
    refine ⟨[], Nat, fun i => ⟨[(1, .p (.str s)), (3, .ptr 0 8 0 0), (7, .p (bools s.length (comp ((sub.map (Tr.ends s)).take i) f))), (9, .p (i64 i))], [Tr.blk 2 set sub lo hi]⟩,
      fun i => i ≤ sub.length, fun i => sub.length - i, ⟨0, Nat.zero_le _, ?_⟩, fun i hi' => ?_⟩
    · (refine ⟨⟨rfl, rfl⟩, ?_, ?_⟩ <;> (repeat' (first | exact TLe.nil | exact HLe.nil _ | refine TLe.cons ?_ ?_ | refine HLe.cons ?_ ?_ | exact KLe.ptr rfl | exact KLe.sl rfl (.inl rfl) | exact KLe.csl rfl | refine KLe.pe ?_ | refine BLe.pe ?_ | refine BLe.mx ?_ | exact KLeL.nil | refine KLe.fn ?_ ?_ | refine KLeL.cons ?_ ?_ | exact KLe.und _ | exact BLe.dead _)) <;> (try with_reducible rfl))
      · refine KLe.fsl (rs := brows s.length f) rfl rfl ?_ ?_ (.refl _)
        · show List.take _ (List.take 0 _ ++ List.take _ (brows _ _) ++ List.drop _ _) = _
          rw [hbf, Int.toNat_natCast, Nat.min_self, List.take_zero, List.nil_append, List.drop_of_length_le (by simp), List.append_nil, List.take_take, Nat.min_self, take_all (by rw [hbf]; omega)]
        · rw [hbf, Int.toNat_natCast]
      · rfl
    · have hi' : i ≤ sub.length := hi'
      ((conv => whnf) <;> (repeat (first | (refine And.intro (by first | omega | exact rfl | exact trivial | exact Nat.le_of_ble_eq_true rfl | (simp only [List.length_cons, List.length_nil]; omega)) ?_; conv => whnf) | (refine And.intro ?_ trivial; conv => whnf) | ((with_reducible refine bk_true ?_); conv => whnf) | ((with_reducible refine bk_false ?_); conv => whnf) | (refine ex_get rfl ?_; conv => whnf) | (refine ex_cs rfl rfl ?_; conv => whnf) | ((with_reducible refine bk_nt ?_); conv => whnf) | ((with_reducible refine bk_nf ?_); conv => whnf))))
      rw [hl]
      (refine bk_split (fun hb => ?_) (fun hb => ?_))
      · have hlt : i < sub.length := by have := lss_t hb; omega
        obtain ⟨t, ht⟩ : ∃ t, sub[i]? = some t := ⟨_, List.getElem?_eq_getElem hlt⟩
        ((conv => whnf) <;> (repeat (first | (refine And.intro (by first | omega | exact rfl | exact trivial | exact Nat.le_of_ble_eq_true rfl | (simp only [List.length_cons, List.length_nil]; omega)) ?_; conv => whnf) | (refine And.intro ?_ trivial; conv => whnf) | ((with_reducible refine bk_true ?_); conv => whnf) | ((with_reducible refine bk_false ?_); conv => whnf) | (refine ex_get rfl ?_; conv => whnf) | (refine ex_cs rfl rfl ?_; conv => whnf) | ((with_reducible refine bk_nt ?_); conv => whnf) | ((with_reducible refine bk_nf ?_); conv => whnf))))
        refine ⟨_, by rw [Int.toNat_natCast]; exact Tr.rows_get ht, ?_⟩
        ((conv => whnf) <;> (repeat (first | (refine And.intro (by first | omega | exact rfl | exact trivial | exact Nat.le_of_ble_eq_true rfl | (simp only [List.length_cons, List.length_nil]; omega)) ?_; conv => whnf) | (refine And.intro ?_ trivial; conv => whnf) | ((with_reducible refine bk_true ?_); conv => whnf) | ((with_reducible refine bk_false ?_); conv => whnf) | (refine ex_get rfl ?_; conv => whnf) | (refine ex_cs rfl rfl ?_; conv => whnf) | ((with_reducible refine bk_nt ?_); conv => whnf) | ((with_reducible refine bk_nf ?_); conv => whnf))))
        refine ⟨t.cells, t.take8, t.len8, ?_⟩
        ((conv => whnf) <;> (repeat (first | (refine And.intro (by first | omega | exact rfl | exact trivial | exact Nat.le_of_ble_eq_true rfl | (simp only [List.length_cons, List.length_nil]; omega)) ?_; conv => whnf) | (refine And.intro ?_ trivial; conv => whnf) | ((with_reducible refine bk_true ?_); conv => whnf) | ((with_reducible refine bk_false ?_); conv => whnf) | (refine ex_get rfl ?_; conv => whnf) | (refine ex_cs rfl rfl ?_; conv => whnf) | ((with_reducible refine bk_nt ?_); conv => whnf) | ((with_reducible refine bk_nf ?_); conv => whnf))))
        refine vcall_pf (ih t (mem_get ht) (hT.sub t (mem_get ht)) (ok_sub hok (mem_get ht)) _) rfl rfl ?_
        ((conv => whnf) <;> (repeat (first | (refine And.intro (by first | omega | exact rfl | exact trivial | exact Nat.le_of_ble_eq_true rfl | (simp only [List.length_cons, List.length_nil]; omega)) ?_; conv => whnf) | (refine And.intro ?_ trivial; conv => whnf) | ((with_reducible refine bk_true ?_); conv => whnf) | ((with_reducible refine bk_false ?_); conv => whnf) | (refine ex_get rfl ?_; conv => whnf) | (refine ex_cs rfl rfl ?_; conv => whnf) | ((with_reducible refine bk_nt ?_); conv => whnf) | ((with_reducible refine bk_nf ?_); conv => whnf))))
        refine ⟨i + 1, hlt, (show sub.length - (i + 1) < sub.length - i by omega), ?_⟩
        (refine ⟨⟨rfl, rfl⟩, ?_, ?_⟩ <;> (repeat' (first | exact TLe.nil | exact HLe.nil _ | refine TLe.cons ?_ ?_ | refine HLe.cons ?_ ?_ | exact KLe.ptr rfl | exact KLe.sl rfl (.inl rfl) | exact KLe.csl rfl | refine KLe.pe ?_ | refine BLe.pe ?_ | refine BLe.mx ?_ | exact KLeL.nil | refine KLe.fn ?_ ?_ | refine KLeL.cons ?_ ?_ | exact KLe.und _ | exact BLe.dead _)) <;> (try with_reducible rfl))
        all_goals first | ((refine congrArg (PV.int IntKind.i64) ?_) <;> (first | rfl | omega | (rw [add64 (by omega) (by omega)]; omega) | (rw [sub64 (by omega) (by omega)]; omega))) | skip
        unfold comp
        rw [fold_take (map_get (Tr.ends s) ht)]
        rfl
      · have hie : i = sub.length := by have := lss_f hb; omega
        have e : (sub.map (Tr.ends s)).take i = sub.map (Tr.ends s) := take_all (by simp [hie])
        ((conv => whnf) <;> (repeat (first | (refine And.intro (by first | omega | exact rfl | exact trivial | exact Nat.le_of_ble_eq_true rfl | (simp only [List.length_cons, List.length_nil]; omega)) ?_; conv => whnf) | (refine And.intro ?_ trivial; conv => whnf) | ((with_reducible refine bk_true ?_); conv => whnf) | ((with_reducible refine bk_false ?_); conv => whnf) | (refine ex_get rfl ?_; conv => whnf) | (refine ex_cs rfl rfl ?_; conv => whnf) | ((with_reducible refine bk_nt ?_); conv => whnf) | ((with_reducible refine bk_nf ?_); conv => whnf))))
        refine ret_pf rfl rfl ?_
        rw [e]
        rfl
  by_cases k3 : k = 3
  · subst k3
    rw [Tr.ends3]
    refine pf_intro rf75_eq rmixed rfl ?_
    ((conv => whnf) <;> (repeat (first | (refine And.intro (by first | omega | exact rfl | exact trivial | exact Nat.le_of_ble_eq_true rfl | (simp only [List.length_cons, List.length_nil]; omega)) ?_; conv => whnf) | (refine And.intro ?_ trivial; conv => whnf) | ((with_reducible refine bk_true ?_); conv => whnf) | ((with_reducible refine bk_false ?_); conv => whnf) | (refine ex_get rfl ?_; conv => whnf) | (refine ex_cs rfl rfl ?_; conv => whnf) | ((with_reducible refine bk_nt ?_); conv => whnf) | ((with_reducible refine bk_nf ?_); conv => whnf))))
    rw [hs1]
    refine bk_is (eqlF (by omega)) ?_
    ((conv => whnf) <;> (repeat (first | (refine And.intro (by first | omega | exact rfl | exact trivial | exact Nat.le_of_ble_eq_true rfl | (simp only [List.length_cons, List.length_nil]; omega)) ?_; conv => whnf) | (refine And.intro ?_ trivial; conv => whnf) | ((with_reducible refine bk_true ?_); conv => whnf) | ((with_reducible refine bk_false ?_); conv => whnf) | (refine ex_get rfl ?_; conv => whnf) | (refine ex_cs rfl rfl ?_; conv => whnf) | ((with_reducible refine bk_nt ?_); conv => whnf) | ((with_reducible refine bk_nf ?_); conv => whnf))))
    refine bk_is (eqlF (by omega)) ?_
    ((conv => whnf) <;> (repeat (first | (refine And.intro (by first | omega | exact rfl | exact trivial | exact Nat.le_of_ble_eq_true rfl | (simp only [List.length_cons, List.length_nil]; omega)) ?_; conv => whnf) | (refine And.intro ?_ trivial; conv => whnf) | ((with_reducible refine bk_true ?_); conv => whnf) | ((with_reducible refine bk_false ?_); conv => whnf) | (refine ex_get rfl ?_; conv => whnf) | (refine ex_cs rfl rfl ?_; conv => whnf) | ((with_reducible refine bk_nt ?_); conv => whnf) | ((with_reducible refine bk_nf ?_); conv => whnf))))
    refine bk_is (eqlF (by omega)) ?_
    ((conv => whnf) <;> (repeat (first | (refine And.intro (by first | omega | exact rfl | exact trivial | exact Nat.le_of_ble_eq_true rfl | (simp only [List.length_cons, List.length_nil]; omega)) ?_; conv => whnf) | (refine And.intro ?_ trivial; conv => whnf) | ((with_reducible refine bk_true ?_); conv => whnf) | ((with_reducible refine bk_false ?_); conv => whnf) | (refine ex_get rfl ?_; conv => whnf) | (refine ex_cs rfl rfl ?_; conv => whnf) | ((with_reducible refine bk_nt ?_); conv => whnf) | ((with_reducible refine bk_nf ?_); conv => whnf))))
    refine bk_is (eqlT rfl) ?_
    ((conv => whnf) <;> (repeat (first | (refine And.intro (by first | omega | exact rfl | exact trivial | exact Nat.le_of_ble_eq_true rfl | (simp only [List.length_cons, List.length_nil]; omega)) ?_; conv => whnf) | (refine And.intro ?_ trivial; conv => whnf) | ((with_reducible refine bk_true ?_); conv => whnf) | ((with_reducible refine bk_false ?_); conv => whnf) | (refine ex_get rfl ?_; conv => whnf) | (refine ex_cs rfl rfl ?_; conv => whnf) | ((with_reducible refine bk_nt ?_); conv => whnf) | ((with_reducible refine bk_nf ?_); conv => whnf))))
    refine ⟨[], Nat, fun i => ⟨[(1, .p (.str s)), (2, .p (bools s.length f)), (3, .ptr 0 8 0 0), (7, .sl 1 1 0 (s.length + 1) none), (10, .p (i64 i))],
        [Tr.blk 3 set sub lo hi, .pr 1 (brows s.length fun j => (sub.take i).any fun t => t.ends s f j)]⟩,
      fun i => i ≤ sub.length, fun i => sub.length - i, ⟨0, Nat.zero_le _, ?_⟩, fun i hi' => ?_⟩
    · (refine ⟨⟨rfl, rfl⟩, ?_, ?_⟩ <;> (repeat' (first | exact TLe.nil | exact HLe.nil _ | refine TLe.cons ?_ ?_ | refine HLe.cons ?_ ?_ | exact KLe.ptr rfl | exact KLe.sl rfl (.inl rfl) | exact KLe.csl rfl | refine KLe.pe ?_ | refine BLe.pe ?_ | refine BLe.mx ?_ | exact KLeL.nil | refine KLe.fn ?_ ?_ | refine KLeL.cons ?_ ?_ | exact KLe.und _ | exact BLe.dead _)) <;> (try with_reducible rfl))
      all_goals first | rfl | (rw [hz]; rfl) | skip
    · have hi' : i ≤ sub.length := hi'
      ((conv => whnf) <;> (repeat (first | (refine And.intro (by first | omega | exact rfl | exact trivial | exact Nat.le_of_ble_eq_true rfl | (simp only [List.length_cons, List.length_nil]; omega)) ?_; conv => whnf) | (refine And.intro ?_ trivial; conv => whnf) | ((with_reducible refine bk_true ?_); conv => whnf) | ((with_reducible refine bk_false ?_); conv => whnf) | (refine ex_get rfl ?_; conv => whnf) | (refine ex_cs rfl rfl ?_; conv => whnf) | ((with_reducible refine bk_nt ?_); conv => whnf) | ((with_reducible refine bk_nf ?_); conv => whnf))))
      rw [hl]
      (refine bk_split (fun hb => ?_) (fun hb => ?_))
      · have hlt : i < sub.length := by have := lss_t hb; omega
        obtain ⟨t, ht⟩ : ∃ t, sub[i]? = some t := ⟨_, List.getElem?_eq_getElem hlt⟩
        ((conv => whnf) <;> (repeat (first | (refine And.intro (by first | omega | exact rfl | exact trivial | exact Nat.le_of_ble_eq_true rfl | (simp only [List.length_cons, List.length_nil]; omega)) ?_; conv => whnf) | (refine And.intro ?_ trivial; conv => whnf) | ((with_reducible refine bk_true ?_); conv => whnf) | ((with_reducible refine bk_false ?_); conv => whnf) | (refine ex_get rfl ?_; conv => whnf) | (refine ex_cs rfl rfl ?_; conv => whnf) | ((with_reducible refine bk_nt ?_); conv => whnf) | ((with_reducible refine bk_nf ?_); conv => whnf))))
        refine ⟨_, by rw [Int.toNat_natCast]; exact Tr.rows_get ht, ?_⟩
        ((conv => whnf) <;> (repeat (first | (refine And.intro (by first | omega | exact rfl | exact trivial | exact Nat.le_of_ble_eq_true rfl | (simp only [List.length_cons, List.length_nil]; omega)) ?_; conv => whnf) | (refine And.intro ?_ trivial; conv => whnf) | ((with_reducible refine bk_true ?_); conv => whnf) | ((with_reducible refine bk_false ?_); conv => whnf) | (refine ex_get rfl ?_; conv => whnf) | (refine ex_cs rfl rfl ?_; conv => whnf) | ((with_reducible refine bk_nt ?_); conv => whnf) | ((with_reducible refine bk_nf ?_); conv => whnf))))
        refine ⟨t.cells, t.take8, t.len8, ?_⟩
        ((conv => whnf) <;> (repeat (first | (refine And.intro (by first | omega | exact rfl | exact trivial | exact Nat.le_of_ble_eq_true rfl | (simp only [List.length_cons, List.length_nil]; omega)) ?_; conv => whnf) | (refine And.intro ?_ trivial; conv => whnf) | ((with_reducible refine bk_true ?_); conv => whnf) | ((with_reducible refine bk_false ?_); conv => whnf) | (refine ex_get rfl ?_; conv => whnf) | (refine ex_cs rfl rfl ?_; conv => whnf) | ((with_reducible refine bk_nt ?_); conv => whnf) | ((with_reducible refine bk_nf ?_); conv => whnf))))
        refine vcall_pf (ih t (mem_get ht) (hT.sub t (mem_get ht)) (ok_sub hok (mem_get ht)) f) rfl rfl ?_
        ((conv => whnf) <;> (repeat (first | (refine And.intro (by first | omega | exact rfl | exact trivial | exact Nat.le_of_ble_eq_true rfl | (simp only [List.length_cons, List.length_nil]; omega)) ?_; conv => whnf) | (refine And.intro ?_ trivial; conv => whnf) | ((with_reducible refine bk_true ?_); conv => whnf) | ((with_reducible refine bk_false ?_); conv => whnf) | (refine ex_get rfl ?_; conv => whnf) | (refine ex_cs rfl rfl ?_; conv => whnf) | ((with_reducible refine bk_nt ?_); conv => whnf) | ((with_reducible refine bk_nf ?_); conv => whnf))))
        refine ⟨[], Nat, fun m => ⟨[(1, .p (.str s)), (2, .p (bools s.length f)), (3, .ptr 0 8 0 0), (7, .sl 1 1 0 (s.length + 1) none), (10, .p (i64 i)), (11, .p (bools s.length (t.ends s f))), (12, .p (i64 m))],
            [Tr.blk 3 set sub lo hi, .pr 1 (brows s.length fun j => (sub.take i).any (fun t => t.ends s f j) || (decide (j < m) && t.ends s f j))]⟩,
          fun m => m ≤ s.length + 1, fun m => s.length + 1 - m, ⟨0, Nat.zero_le _, ?_⟩, fun m hm => ?_⟩
        · (refine ⟨⟨rfl, rfl⟩, ?_, ?_⟩ <;> (repeat' (first | exact TLe.nil | exact HLe.nil _ | refine TLe.cons ?_ ?_ | refine HLe.cons ?_ ?_ | exact KLe.ptr rfl | exact KLe.sl rfl (.inl rfl) | exact KLe.csl rfl | refine KLe.pe ?_ | refine BLe.pe ?_ | refine BLe.mx ?_ | exact KLeL.nil | refine KLe.fn ?_ ?_ | refine KLeL.cons ?_ ?_ | exact KLe.und _ | exact BLe.dead _)) <;> (try with_reducible rfl))
          all_goals first | rfl | skip
          exact brows_congr fun j hj => by simp
        · have hm : m ≤ s.length + 1 := hm
          have hbt := hbl (t.ends s f)
          have hbg := hbl fun j => (sub.take i).any (fun t => t.ends s f j) || (decide (j < m) && t.ends s f j)
          ((conv => whnf) <;> (repeat (first | (refine And.intro (by first | omega | exact rfl | exact trivial | exact Nat.le_of_ble_eq_true rfl | (simp only [List.length_cons, List.length_nil]; omega)) ?_; conv => whnf) | (refine And.intro ?_ trivial; conv => whnf) | ((with_reducible refine bk_true ?_); conv => whnf) | ((with_reducible refine bk_false ?_); conv => whnf) | (refine ex_get rfl ?_; conv => whnf) | (refine ex_cs rfl rfl ?_; conv => whnf) | ((with_reducible refine bk_nt ?_); conv => whnf) | ((with_reducible refine bk_nf ?_); conv => whnf))))
          (refine bk_split (fun hb => ?_) (fun hb => ?_))
          · have hmlt : m < s.length + 1 := by have := lss_t hb; omega
            ((conv => whnf) <;> (repeat (first | (refine And.intro (by first | omega | exact rfl | exact trivial | exact Nat.le_of_ble_eq_true rfl | (simp only [List.length_cons, List.length_nil]; omega)) ?_; conv => whnf) | (refine And.intro ?_ trivial; conv => whnf) | ((with_reducible refine bk_true ?_); conv => whnf) | ((with_reducible refine bk_false ?_); conv => whnf) | (refine ex_get rfl ?_; conv => whnf) | (refine ex_cs rfl rfl ?_; conv => whnf) | ((with_reducible refine bk_nt ?_); conv => whnf) | ((with_reducible refine bk_nf ?_); conv => whnf))))
            refine ⟨[.b (((sub.take i).any fun t => t.ends s f m) || (decide (m < m) && t.ends s f m))], by rw [Nat.zero_add, Int.toNat_natCast]; exact brows_get (by omega), ?_⟩
            ((conv => whnf) <;> (repeat (first | (refine And.intro (by first | omega | exact rfl | exact trivial | exact Nat.le_of_ble_eq_true rfl | (simp only [List.length_cons, List.length_nil]; omega)) ?_; conv => whnf) | (refine And.intro ?_ trivial; conv => whnf) | ((with_reducible refine bk_true ?_); conv => whnf) | ((with_reducible refine bk_false ?_); conv => whnf) | (refine ex_get rfl ?_; conv => whnf) | (refine ex_cs rfl rfl ?_; conv => whnf) | ((with_reducible refine bk_nt ?_); conv => whnf) | ((with_reducible refine bk_nf ?_); conv => whnf))))
            (refine bk_split (fun hb => ?_) (fun hb => ?_))
            · ((conv => whnf) <;> (repeat (first | (refine And.intro (by first | omega | exact rfl | exact trivial | exact Nat.le_of_ble_eq_true rfl | (simp only [List.length_cons, List.length_nil]; omega)) ?_; conv => whnf) | (refine And.intro ?_ trivial; conv => whnf) | ((with_reducible refine bk_true ?_); conv => whnf) | ((with_reducible refine bk_false ?_); conv => whnf) | (refine ex_get rfl ?_; conv => whnf) | (refine ex_cs rfl rfl ?_; conv => whnf) | ((with_reducible refine bk_nt ?_); conv => whnf) | ((with_reducible refine bk_nf ?_); conv => whnf))))
              refine ⟨[.b (((sub.take i).any fun t => t.ends s f m) || (decide (m < m) && t.ends s f m))], by rw [Nat.zero_add, Int.toNat_natCast]; exact brows_get (by omega), rfl, Nat.le_refl _, ?_⟩
              ((conv => whnf) <;> (repeat (first | (refine And.intro (by first | omega | exact rfl | exact trivial | exact Nat.le_of_ble_eq_true rfl | (simp only [List.length_cons, List.length_nil]; omega)) ?_; conv => whnf) | (refine And.intro ?_ trivial; conv => whnf) | ((with_reducible refine bk_true ?_); conv => whnf) | ((with_reducible refine bk_false ?_); conv => whnf) | (refine ex_get rfl ?_; conv => whnf) | (refine ex_cs rfl rfl ?_; conv => whnf) | ((with_reducible refine bk_nt ?_); conv => whnf) | ((with_reducible refine bk_nf ?_); conv => whnf))))
              refine ⟨m + 1, hmlt, (show s.length + 1 - (m + 1) < s.length + 1 - m by omega), ?_⟩
              (refine ⟨⟨rfl, rfl⟩, ?_, ?_⟩ <;> (repeat' (first | exact TLe.nil | exact HLe.nil _ | refine TLe.cons ?_ ?_ | refine HLe.cons ?_ ?_ | exact KLe.ptr rfl | exact KLe.sl rfl (.inl rfl) | exact KLe.csl rfl | refine KLe.pe ?_ | refine BLe.pe ?_ | refine BLe.mx ?_ | exact KLeL.nil | refine KLe.fn ?_ ?_ | refine KLeL.cons ?_ ?_ | exact KLe.und _ | exact BLe.dead _)) <;> (try with_reducible rfl))
              all_goals first | ((refine congrArg (PV.int IntKind.i64) ?_) <;> (first | rfl | omega | (rw [add64 (by omega) (by omega)]; omega) | (rw [sub64 (by omega) (by omega)]; omega))) | skip
              rw [Nat.zero_add, Int.toNat_natCast]
              refine brows_set (v := true) (fun j hj hne => ?_) ?_ (by omega)
              · rw [show decide (j < m + 1) = decide (j < m) from decide_eq_decide.2 (by omega)]
              · rw [decide_eq_false (Nat.lt_irrefl _), Bool.false_and, Bool.or_false] at hb
                rw [hb, Bool.true_or]
            · ((conv => whnf) <;> (repeat (first | (refine And.intro (by first | omega | exact rfl | exact trivial | exact Nat.le_of_ble_eq_true rfl | (simp only [List.length_cons, List.length_nil]; omega)) ?_; conv => whnf) | (refine And.intro ?_ trivial; conv => whnf) | ((with_reducible refine bk_true ?_); conv => whnf) | ((with_reducible refine bk_false ?_); conv => whnf) | (refine ex_get rfl ?_; conv => whnf) | (refine ex_cs rfl rfl ?_; conv => whnf) | ((with_reducible refine bk_nt ?_); conv => whnf) | ((with_reducible refine bk_nf ?_); conv => whnf))))
              refine ⟨[.b (t.ends s f m)], by rw [Int.toNat_natCast]; exact brows_get (by omega), ?_⟩
              ((conv => whnf) <;> (repeat (first | (refine And.intro (by first | omega | exact rfl | exact trivial | exact Nat.le_of_ble_eq_true rfl | (simp only [List.length_cons, List.length_nil]; omega)) ?_; conv => whnf) | (refine And.intro ?_ trivial; conv => whnf) | ((with_reducible refine bk_true ?_); conv => whnf) | ((with_reducible refine bk_false ?_); conv => whnf) | (refine ex_get rfl ?_; conv => whnf) | (refine ex_cs rfl rfl ?_; conv => whnf) | ((with_reducible refine bk_nt ?_); conv => whnf) | ((with_reducible refine bk_nf ?_); conv => whnf))))
              refine ⟨[.b (((sub.take i).any fun t => t.ends s f m) || (decide (m < m) && t.ends s f m))], by rw [Nat.zero_add, Int.toNat_natCast]; exact brows_get (by omega), rfl, Nat.le_refl _, ?_⟩
              ((conv => whnf) <;> (repeat (first | (refine And.intro (by first | omega | exact rfl | exact trivial | exact Nat.le_of_ble_eq_true rfl | (simp only [List.length_cons, List.length_nil]; omega)) ?_; conv => whnf) | (refine And.intro ?_ trivial; conv => whnf) | ((with_reducible refine bk_true ?_); conv => whnf) | ((with_reducible refine bk_false ?_); conv => whnf) | (refine ex_get rfl ?_; conv => whnf) | (refine ex_cs rfl rfl ?_; conv => whnf) | ((with_reducible refine bk_nt ?_); conv => whnf) | ((with_reducible refine bk_nf ?_); conv => whnf))))
              refine ⟨m + 1, hmlt, (show s.length + 1 - (m + 1) < s.length + 1 - m by omega), ?_⟩
              (refine ⟨⟨rfl, rfl⟩, ?_, ?_⟩ <;> (repeat' (first | exact TLe.nil | exact HLe.nil _ | refine TLe.cons ?_ ?_ | refine HLe.cons ?_ ?_ | exact KLe.ptr rfl | exact KLe.sl rfl (.inl rfl) | exact KLe.csl rfl | refine KLe.pe ?_ | refine BLe.pe ?_ | refine BLe.mx ?_ | exact KLeL.nil | refine KLe.fn ?_ ?_ | refine KLeL.cons ?_ ?_ | exact KLe.und _ | exact BLe.dead _)) <;> (try with_reducible rfl))
              all_goals first | ((refine congrArg (PV.int IntKind.i64) ?_) <;> (first | rfl | omega | (rw [add64 (by omega) (by omega)]; omega) | (rw [sub64 (by omega) (by omega)]; omega))) | skip
              rw [Nat.zero_add, Int.toNat_natCast]
              refine brows_set (v := t.ends s f m) (fun j hj hne => ?_) ?_ (by omega)
              · rw [show decide (j < m + 1) = decide (j < m) from decide_eq_decide.2 (by omega)]
              · rw [decide_eq_false (Nat.lt_irrefl _), Bool.false_and, Bool.or_false] at hb
                rw [hb, Bool.false_or, decide_eq_true (Nat.lt_succ_self _), Bool.true_and]
          · have hme : m = s.length + 1 := by have := lss_f hb; omega
            ((conv => whnf) <;> (repeat (first | (refine And.intro (by first | omega | exact rfl | exact trivial | exact Nat.le_of_ble_eq_true rfl | (simp only [List.length_cons, List.length_nil]; omega)) ?_; conv => whnf) | (refine And.intro ?_ trivial; conv => whnf) | ((with_reducible refine bk_true ?_); conv => whnf) | ((with_reducible refine bk_false ?_); conv => whnf) | (refine ex_get rfl ?_; conv => whnf) | (refine ex_cs rfl rfl ?_; conv => whnf) | ((with_reducible refine bk_nt ?_); conv => whnf) | ((with_reducible refine bk_nf ?_); conv => whnf))))
            refine ⟨i + 1, hlt, (show sub.length - (i + 1) < sub.length - i by omega), ?_⟩
            (refine ⟨⟨rfl, rfl⟩, ?_, ?_⟩ <;> (repeat' (first | exact TLe.nil | exact HLe.nil _ | refine TLe.cons ?_ ?_ | refine HLe.cons ?_ ?_ | exact KLe.ptr rfl | exact KLe.sl rfl (.inl rfl) | exact KLe.csl rfl | refine KLe.pe ?_ | refine BLe.pe ?_ | refine BLe.mx ?_ | exact KLeL.nil | refine KLe.fn ?_ ?_ | refine KLeL.cons ?_ ?_ | exact KLe.und _ | exact BLe.dead _)) <;> (try with_reducible rfl))
            all_goals first | ((refine congrArg (PV.int IntKind.i64) ?_) <;> (first | rfl | omega | (rw [add64 (by omega) (by omega)]; omega) | (rw [sub64 (by omega) (by omega)]; omega))) | skip
            refine brows_congr fun j hj => ?_
            rw [decide_eq_true (by omega), Bool.true_and, List.take_add_one, ht]
            simp
      · have hie : i = sub.length := by have := lss_f hb; omega
        have e : sub.take i = sub := take_all (by omega)
        ((conv => whnf) <;> (repeat (first | (refine And.intro (by first | omega | exact rfl | exact trivial | exact Nat.le_of_ble_eq_true rfl | (simp only [List.length_cons, List.length_nil]; omega)) ?_; conv => whnf) | (refine And.intro ?_ trivial; conv => whnf) | ((with_reducible refine bk_true ?_); conv => whnf) | ((with_reducible refine bk_false ?_); conv => whnf) | (refine ex_get rfl ?_; conv => whnf) | (refine ex_cs rfl rfl ?_; conv => whnf) | ((with_reducible refine bk_nt ?_); conv => whnf) | ((with_reducible refine bk_nf ?_); conv => whnf))))
        refine ⟨.p (bools s.length fun j => sub.any fun t => t.ends s f j), [], ⟨rfl, rfl⟩, ⟨rfl, rfl⟩, KLe.fsl (rs := brows s.length fun j => sub.any fun t => t.ends s f j) rfl rfl ?_ (hbl _) (.refl _), .nil _⟩
        rw [e]
        exact take_all (l := brows s.length _) (by rw [hbl]; exact Nat.le_refl _)
  have k4 : k = 4 := by omega
  subst k4
  have h1 : sub.length = 1 := by omega
  match sub, h1 with
  | [t], _ =>
    have hl1 : (Tr.rowsL [t]).length = 1 := rfl
    rw [Tr.ends4]
    have hlo0 : 0 ≤ lo ∧ lo ≤ 64 ∧ (hi = -1 ∨ lo ≤ hi ∧ hi ≤ 64) := by omega
    obtain ⟨M, hM⟩ : ∃ M : Nat, (most s lo hi).toNat = M := ⟨_, rfl⟩
    rw [hM]
    unfold most at hM
    refine pf_intro rf75_eq rmixed rfl ?_
    ((conv => whnf) <;> (repeat (first | (refine And.intro (by first | omega | exact rfl | exact trivial | exact Nat.le_of_ble_eq_true rfl | (simp only [List.length_cons, List.length_nil]; omega)) ?_; conv => whnf) | (refine And.intro ?_ trivial; conv => whnf) | ((with_reducible refine bk_true ?_); conv => whnf) | ((with_reducible refine bk_false ?_); conv => whnf) | (refine ex_get rfl ?_; conv => whnf) | (refine ex_cs rfl rfl ?_; conv => whnf) | ((with_reducible refine bk_nt ?_); conv => whnf) | ((with_reducible refine bk_nf ?_); conv => whnf))))
    rw [hs1]
    refine bk_is (eqlF (by omega)) ?_
    ((conv => whnf) <;> (repeat (first | (refine And.intro (by first | omega | exact rfl | exact trivial | exact Nat.le_of_ble_eq_true rfl | (simp only [List.length_cons, List.length_nil]; omega)) ?_; conv => whnf) | (refine And.intro ?_ trivial; conv => whnf) | ((with_reducible refine bk_true ?_); conv => whnf) | ((with_reducible refine bk_false ?_); conv => whnf) | (refine ex_get rfl ?_; conv => whnf) | (refine ex_cs rfl rfl ?_; conv => whnf) | ((with_reducible refine bk_nt ?_); conv => whnf) | ((with_reducible refine bk_nf ?_); conv => whnf))))
    refine bk_is (eqlF (by omega)) ?_
    ((conv => whnf) <;> (repeat (first | (refine And.intro (by first | omega | exact rfl | exact trivial | exact Nat.le_of_ble_eq_true rfl | (simp only [List.length_cons, List.length_nil]; omega)) ?_; conv => whnf) | (refine And.intro ?_ trivial; conv => whnf) | ((with_reducible refine bk_true ?_); conv => whnf) | ((with_reducible refine bk_false ?_); conv => whnf) | (refine ex_get rfl ?_; conv => whnf) | (refine ex_cs rfl rfl ?_; conv => whnf) | ((with_reducible refine bk_nt ?_); conv => whnf) | ((with_reducible refine bk_nf ?_); conv => whnf))))
    refine bk_is (eqlF (by omega)) ?_
    ((conv => whnf) <;> (repeat (first | (refine And.intro (by first | omega | exact rfl | exact trivial | exact Nat.le_of_ble_eq_true rfl | (simp only [List.length_cons, List.length_nil]; omega)) ?_; conv => whnf) | (refine And.intro ?_ trivial; conv => whnf) | ((with_reducible refine bk_true ?_); conv => whnf) | ((with_reducible refine bk_false ?_); conv => whnf) | (refine ex_get rfl ?_; conv => whnf) | (refine ex_cs rfl rfl ?_; conv => whnf) | ((with_reducible refine bk_nt ?_); conv => whnf) | ((with_reducible refine bk_nf ?_); conv => whnf))))
    refine bk_is (eqlF (by omega)) ?_
    ((conv => whnf) <;> (repeat (first | (refine And.intro (by first | omega | exact rfl | exact trivial | exact Nat.le_of_ble_eq_true rfl | (simp only [List.length_cons, List.length_nil]; omega)) ?_; conv => whnf) | (refine And.intro ?_ trivial; conv => whnf) | ((with_reducible refine bk_true ?_); conv => whnf) | ((with_reducible refine bk_false ?_); conv => whnf) | (refine ex_get rfl ?_; conv => whnf) | (refine ex_cs rfl rfl ?_; conv => whnf) | ((with_reducible refine bk_nt ?_); conv => whnf) | ((with_reducible refine bk_nf ?_); conv => whnf))))
    rcases Int.lt_or_le hi 0 with hh | hh
    · rw [if_pos hh] at hM
      have hM64 : M ≤ 64 + s.length + 1 := by omega
      refine bk_is (lssT hh) ?_
      ((conv => whnf) <;> (repeat (first | (refine And.intro (by first | omega | exact rfl | exact trivial | exact Nat.le_of_ble_eq_true rfl | (simp only [List.length_cons, List.length_nil]; omega)) ?_; conv => whnf) | (refine And.intro ?_ trivial; conv => whnf) | ((with_reducible refine bk_true ?_); conv => whnf) | ((with_reducible refine bk_false ?_); conv => whnf) | (refine ex_get rfl ?_; conv => whnf) | (refine ex_cs rfl rfl ?_; conv => whnf) | ((with_reducible refine bk_nt ?_); conv => whnf) | ((with_reducible refine bk_nf ?_); conv => whnf))))
      refine ⟨[], Nat, fun n => ⟨[(1, .p (.str s)), (3, .ptr 0 8 0 0), (7, .sl 1 1 0 (s.length + 1) none), (13, .p (bools s.length (iter (t.ends s) (min n M) f))), (14, .p (i64 M)), (15, .p (i64 n))],
          [Tr.blk 4 set [t] lo hi, .pr 1 (brows s.length fun j => (List.range n).any fun q => decide (lo.toNat ≤ q) && iter (t.ends s) q f j)]⟩,
        fun n => n ≤ M + 1, fun n => M + 1 - n, ⟨0, Nat.zero_le _, ?_⟩, fun n hnle => ?_⟩
      · (refine ⟨⟨rfl, rfl⟩, ?_, ?_⟩ <;> (repeat' (first | exact TLe.nil | exact HLe.nil _ | refine TLe.cons ?_ ?_ | refine HLe.cons ?_ ?_ | exact KLe.ptr rfl | exact KLe.sl rfl (.inl rfl) | exact KLe.csl rfl | refine KLe.pe ?_ | refine BLe.pe ?_ | refine BLe.mx ?_ | exact KLeL.nil | refine KLe.fn ?_ ?_ | refine KLeL.cons ?_ ?_ | exact KLe.und _ | exact BLe.dead _)) <;> (try with_reducible rfl))
        all_goals first | rfl | skip
        · refine congrArg (PV.int .i64) ?_
          rw [add64 (a := lo) (b := (s.length : Int)) (by omega) (by omega), add64 (by omega) (by omega)]
          omega
        · rw [hz]; rfl
      · have hnle : n ≤ M + 1 := hnle
        ((conv => whnf) <;> (repeat (first | (refine And.intro (by first | omega | exact rfl | exact trivial | exact Nat.le_of_ble_eq_true rfl | (simp only [List.length_cons, List.length_nil]; omega)) ?_; conv => whnf) | (refine And.intro ?_ trivial; conv => whnf) | ((with_reducible refine bk_true ?_); conv => whnf) | ((with_reducible refine bk_false ?_); conv => whnf) | (refine ex_get rfl ?_; conv => whnf) | (refine ex_cs rfl rfl ?_; conv => whnf) | ((with_reducible refine bk_nt ?_); conv => whnf) | ((with_reducible refine bk_nf ?_); conv => whnf))))
        (refine bk_split (fun hb => ?_) (fun hb => ?_))
        · have hnM' : n ≤ M := by have := leq_t hb; omega
          have hE : min n M = n := Nat.min_eq_left hnM'
          ((conv => whnf) <;> (repeat (first | (refine And.intro (by first | omega | exact rfl | exact trivial | exact Nat.le_of_ble_eq_true rfl | (simp only [List.length_cons, List.length_nil]; omega)) ?_; conv => whnf) | (refine And.intro ?_ trivial; conv => whnf) | ((with_reducible refine bk_true ?_); conv => whnf) | ((with_reducible refine bk_false ?_); conv => whnf) | (refine ex_get rfl ?_; conv => whnf) | (refine ex_cs rfl rfl ?_; conv => whnf) | ((with_reducible refine bk_nt ?_); conv => whnf) | ((with_reducible refine bk_nf ?_); conv => whnf))))
          rcases Int.lt_or_le (n : Int) lo with hlo | hlo
          · refine bk_is (geqF (by omega)) ?_
            ((conv => whnf) <;> (repeat (first | (refine And.intro (by first | omega | exact rfl | exact trivial | exact Nat.le_of_ble_eq_true rfl | (simp only [List.length_cons, List.length_nil]; omega)) ?_; conv => whnf) | (refine And.intro ?_ trivial; conv => whnf) | ((with_reducible refine bk_true ?_); conv => whnf) | ((with_reducible refine bk_false ?_); conv => whnf) | (refine ex_get rfl ?_; conv => whnf) | (refine ex_cs rfl rfl ?_; conv => whnf) | ((with_reducible refine bk_nt ?_); conv => whnf) | ((with_reducible refine bk_nf ?_); conv => whnf))))
            rcases Nat.lt_or_ge n M with hnM | hnM
            · refine bk_is (lssT (by omega)) ?_
              ((conv => whnf) <;> (repeat (first | (refine And.intro (by first | omega | exact rfl | exact trivial | exact Nat.le_of_ble_eq_true rfl | (simp only [List.length_cons, List.length_nil]; omega)) ?_; conv => whnf) | (refine And.intro ?_ trivial; conv => whnf) | ((with_reducible refine bk_true ?_); conv => whnf) | ((with_reducible refine bk_false ?_); conv => whnf) | (refine ex_get rfl ?_; conv => whnf) | (refine ex_cs rfl rfl ?_; conv => whnf) | ((with_reducible refine bk_nt ?_); conv => whnf) | ((with_reducible refine bk_nf ?_); conv => whnf))))
              refine ⟨t.cells, t.take8, t.len8, ?_⟩
              ((conv => whnf) <;> (repeat (first | (refine And.intro (by first | omega | exact rfl | exact trivial | exact Nat.le_of_ble_eq_true rfl | (simp only [List.length_cons, List.length_nil]; omega)) ?_; conv => whnf) | (refine And.intro ?_ trivial; conv => whnf) | ((with_reducible refine bk_true ?_); conv => whnf) | ((with_reducible refine bk_false ?_); conv => whnf) | (refine ex_get rfl ?_; conv => whnf) | (refine ex_cs rfl rfl ?_; conv => whnf) | ((with_reducible refine bk_nt ?_); conv => whnf) | ((with_reducible refine bk_nf ?_); conv => whnf))))
              refine vcall_pf (ih t (by simp) (hT.sub t (by simp)) (ok_sub hok (by simp)) _) rfl rfl ?_
              ((conv => whnf) <;> (repeat (first | (refine And.intro (by first | omega | exact rfl | exact trivial | exact Nat.le_of_ble_eq_true rfl | (simp only [List.length_cons, List.length_nil]; omega)) ?_; conv => whnf) | (refine And.intro ?_ trivial; conv => whnf) | ((with_reducible refine bk_true ?_); conv => whnf) | ((with_reducible refine bk_false ?_); conv => whnf) | (refine ex_get rfl ?_; conv => whnf) | (refine ex_cs rfl rfl ?_; conv => whnf) | ((with_reducible refine bk_nt ?_); conv => whnf) | ((with_reducible refine bk_nf ?_); conv => whnf))))
              refine ⟨n + 1, (show n + 1 ≤ M + 1 by omega), (show M + 1 - (n + 1) < M + 1 - n by omega), ?_⟩
              (refine ⟨⟨rfl, rfl⟩, ?_, ?_⟩ <;> (repeat' (first | exact TLe.nil | exact HLe.nil _ | refine TLe.cons ?_ ?_ | refine HLe.cons ?_ ?_ | exact KLe.ptr rfl | exact KLe.sl rfl (.inl rfl) | exact KLe.csl rfl | refine KLe.pe ?_ | refine BLe.pe ?_ | refine BLe.mx ?_ | exact KLeL.nil | refine KLe.fn ?_ ?_ | refine KLeL.cons ?_ ?_ | exact KLe.und _ | exact BLe.dead _)) <;> (try with_reducible rfl))
              all_goals first | ((refine congrArg (PV.int IntKind.i64) ?_) <;> (first | rfl | omega | (rw [add64 (by omega) (by omega)]; omega) | (rw [sub64 (by omega) (by omega)]; omega))) | skip
              · rw [Nat.min_eq_left (by omega : n ≤ M), Nat.min_eq_left (by omega : n + 1 ≤ M)]; rfl
              · exact brows_congr fun j hj => by rw [List.range_succ, List.any_append]; simp only [List.any_cons, List.any_nil, Bool.or_false]; rw [decide_eq_false (by omega), Bool.false_and, Bool.or_false]
            · have hne : n = M := by omega
              refine bk_is (lssF (by omega)) ?_
              ((conv => whnf) <;> (repeat (first | (refine And.intro (by first | omega | exact rfl | exact trivial | exact Nat.le_of_ble_eq_true rfl | (simp only [List.length_cons, List.length_nil]; omega)) ?_; conv => whnf) | (refine And.intro ?_ trivial; conv => whnf) | ((with_reducible refine bk_true ?_); conv => whnf) | ((with_reducible refine bk_false ?_); conv => whnf) | (refine ex_get rfl ?_; conv => whnf) | (refine ex_cs rfl rfl ?_; conv => whnf) | ((with_reducible refine bk_nt ?_); conv => whnf) | ((with_reducible refine bk_nf ?_); conv => whnf))))
              refine ⟨n + 1, (show n + 1 ≤ M + 1 by omega), (show M + 1 - (n + 1) < M + 1 - n by omega), ?_⟩
              (refine ⟨⟨rfl, rfl⟩, ?_, ?_⟩ <;> (repeat' (first | exact TLe.nil | exact HLe.nil _ | refine TLe.cons ?_ ?_ | refine HLe.cons ?_ ?_ | exact KLe.ptr rfl | exact KLe.sl rfl (.inl rfl) | exact KLe.csl rfl | refine KLe.pe ?_ | refine BLe.pe ?_ | refine BLe.mx ?_ | exact KLeL.nil | refine KLe.fn ?_ ?_ | refine KLeL.cons ?_ ?_ | exact KLe.und _ | exact BLe.dead _)) <;> (try with_reducible rfl))
              all_goals first | ((refine congrArg (PV.int IntKind.i64) ?_) <;> (first | rfl | omega | (rw [add64 (by omega) (by omega)]; omega) | (rw [sub64 (by omega) (by omega)]; omega))) | skip
              · rw [Nat.min_eq_right (by omega : M ≤ n), Nat.min_eq_right (by omega : M ≤ n + 1)]
              · exact brows_congr fun j hj => by rw [List.range_succ, List.any_append]; simp only [List.any_cons, List.any_nil, Bool.or_false]; rw [decide_eq_false (by omega), Bool.false_and, Bool.or_false]
          · refine bk_is (geqT (by omega)) ?_
            ((conv => whnf) <;> (repeat (first | (refine And.intro (by first | omega | exact rfl | exact trivial | exact Nat.le_of_ble_eq_true rfl | (simp only [List.length_cons, List.length_nil]; omega)) ?_; conv => whnf) | (refine And.intro ?_ trivial; conv => whnf) | ((with_reducible refine bk_true ?_); conv => whnf) | ((with_reducible refine bk_false ?_); conv => whnf) | (refine ex_get rfl ?_; conv => whnf) | (refine ex_cs rfl rfl ?_; conv => whnf) | ((with_reducible refine bk_nt ?_); conv => whnf) | ((with_reducible refine bk_nf ?_); conv => whnf))))
            refine ⟨[], Nat, fun m => ⟨[(1, .p (.str s)), (3, .ptr 0 8 0 0), (7, .sl 1 1 0 (s.length + 1) none), (13, .p (bools s.length (iter (t.ends s) (min n M) f))), (14, .p (i64 M)), (15, .p (i64 n)), (16, .p (i64 m))],
                [Tr.blk 4 set [t] lo hi, .pr 1 (brows s.length fun j => ((List.range n).any fun q => decide (lo.toNat ≤ q) && iter (t.ends s) q f j) || (decide (j < m) && iter (t.ends s) (min n M) f j))]⟩,
              fun m => m ≤ s.length + 1, fun m => s.length + 1 - m, ⟨0, Nat.zero_le _, ?_⟩, fun m hm => ?_⟩
            · (refine ⟨⟨rfl, rfl⟩, ?_, ?_⟩ <;> (repeat' (first | exact TLe.nil | exact HLe.nil _ | refine TLe.cons ?_ ?_ | refine HLe.cons ?_ ?_ | exact KLe.ptr rfl | exact KLe.sl rfl (.inl rfl) | exact KLe.csl rfl | refine KLe.pe ?_ | refine BLe.pe ?_ | refine BLe.mx ?_ | exact KLeL.nil | refine KLe.fn ?_ ?_ | refine KLeL.cons ?_ ?_ | exact KLe.und _ | exact BLe.dead _)) <;> (try with_reducible rfl))
              all_goals first | rfl | skip
              exact brows_congr fun j hj => by simp
            · have hm : m ≤ s.length + 1 := hm
              have hbt := hbl (iter (t.ends s) (min n M) f)
              have hbg := hbl fun j => ((List.range n).any fun q => decide (lo.toNat ≤ q) && iter (t.ends s) q f j) || (decide (j < m) && iter (t.ends s) (min n M) f j)
              ((conv => whnf) <;> (repeat (first | (refine And.intro (by first | omega | exact rfl | exact trivial | exact Nat.le_of_ble_eq_true rfl | (simp only [List.length_cons, List.length_nil]; omega)) ?_; conv => whnf) | (refine And.intro ?_ trivial; conv => whnf) | ((with_reducible refine bk_true ?_); conv => whnf) | ((with_reducible refine bk_false ?_); conv => whnf) | (refine ex_get rfl ?_; conv => whnf) | (refine ex_cs rfl rfl ?_; conv => whnf) | ((with_reducible refine bk_nt ?_); conv => whnf) | ((with_reducible refine bk_nf ?_); conv => whnf))))
              (refine bk_split (fun hb => ?_) (fun hb => ?_))
              · have hmlt : m < s.length + 1 := by have := lss_t hb; omega
                ((conv => whnf) <;> (repeat (first | (refine And.intro (by first | omega | exact rfl | exact trivial | exact Nat.le_of_ble_eq_true rfl | (simp only [List.length_cons, List.length_nil]; omega)) ?_; conv => whnf) | (refine And.intro ?_ trivial; conv => whnf) | ((with_reducible refine bk_true ?_); conv => whnf) | ((with_reducible refine bk_false ?_); conv => whnf) | (refine ex_get rfl ?_; conv => whnf) | (refine ex_cs rfl rfl ?_; conv => whnf) | ((with_reducible refine bk_nt ?_); conv => whnf) | ((with_reducible refine bk_nf ?_); conv => whnf))))
                refine ⟨[.b (((List.range n).any fun q => decide (lo.toNat ≤ q) && iter (t.ends s) q f m) || (decide (m < m) && iter (t.ends s) (min n M) f m))], by rw [Nat.zero_add, Int.toNat_natCast]; exact brows_get (by omega), ?_⟩
                ((conv => whnf) <;> (repeat (first | (refine And.intro (by first | omega | exact rfl | exact trivial | exact Nat.le_of_ble_eq_true rfl | (simp only [List.length_cons, List.length_nil]; omega)) ?_; conv => whnf) | (refine And.intro ?_ trivial; conv => whnf) | ((with_reducible refine bk_true ?_); conv => whnf) | ((with_reducible refine bk_false ?_); conv => whnf) | (refine ex_get rfl ?_; conv => whnf) | (refine ex_cs rfl rfl ?_; conv => whnf) | ((with_reducible refine bk_nt ?_); conv => whnf) | ((with_reducible refine bk_nf ?_); conv => whnf))))
                (refine bk_split (fun hb => ?_) (fun hb => ?_))
                · ((conv => whnf) <;> (repeat (first | (refine And.intro (by first | omega | exact rfl | exact trivial | exact Nat.le_of_ble_eq_true rfl | (simp only [List.length_cons, List.length_nil]; omega)) ?_; conv => whnf) | (refine And.intro ?_ trivial; conv => whnf) | ((with_reducible refine bk_true ?_); conv => whnf) | ((with_reducible refine bk_false ?_); conv => whnf) | (refine ex_get rfl ?_; conv => whnf) | (refine ex_cs rfl rfl ?_; conv => whnf) | ((with_reducible refine bk_nt ?_); conv => whnf) | ((with_reducible refine bk_nf ?_); conv => whnf))))
                  refine ⟨[.b (((List.range n).any fun q => decide (lo.toNat ≤ q) && iter (t.ends s) q f m) || (decide (m < m) && iter (t.ends s) (min n M) f m))], by rw [Nat.zero_add, Int.toNat_natCast]; exact brows_get (by omega), rfl, Nat.le_refl _, ?_⟩
                  ((conv => whnf) <;> (repeat (first | (refine And.intro (by first | omega | exact rfl | exact trivial | exact Nat.le_of_ble_eq_true rfl | (simp only [List.length_cons, List.length_nil]; omega)) ?_; conv => whnf) | (refine And.intro ?_ trivial; conv => whnf) | ((with_reducible refine bk_true ?_); conv => whnf) | ((with_reducible refine bk_false ?_); conv => whnf) | (refine ex_get rfl ?_; conv => whnf) | (refine ex_cs rfl rfl ?_; conv => whnf) | ((with_reducible refine bk_nt ?_); conv => whnf) | ((with_reducible refine bk_nf ?_); conv => whnf))))
                  refine ⟨m + 1, hmlt, (show s.length + 1 - (m + 1) < s.length + 1 - m by omega), ?_⟩
                  (refine ⟨⟨rfl, rfl⟩, ?_, ?_⟩ <;> (repeat' (first | exact TLe.nil | exact HLe.nil _ | refine TLe.cons ?_ ?_ | refine HLe.cons ?_ ?_ | exact KLe.ptr rfl | exact KLe.sl rfl (.inl rfl) | exact KLe.csl rfl | refine KLe.pe ?_ | refine BLe.pe ?_ | refine BLe.mx ?_ | exact KLeL.nil | refine KLe.fn ?_ ?_ | refine KLeL.cons ?_ ?_ | exact KLe.und _ | exact BLe.dead _)) <;> (try with_reducible rfl))
                  all_goals first | ((refine congrArg (PV.int IntKind.i64) ?_) <;> (first | rfl | omega | (rw [add64 (by omega) (by omega)]; omega) | (rw [sub64 (by omega) (by omega)]; omega))) | skip
                  rw [Nat.zero_add, Int.toNat_natCast]
                  refine brows_set (v := true) (fun j hj hne => ?_) ?_ (by omega)
                  · rw [show decide (j < m + 1) = decide (j < m) from decide_eq_decide.2 (by omega)]
                  · rw [decide_eq_false (Nat.lt_irrefl _), Bool.false_and, Bool.or_false] at hb
                    rw [hb, Bool.true_or]
                · ((conv => whnf) <;> (repeat (first | (refine And.intro (by first | omega | exact rfl | exact trivial | exact Nat.le_of_ble_eq_true rfl | (simp only [List.length_cons, List.length_nil]; omega)) ?_; conv => whnf) | (refine And.intro ?_ trivial; conv => whnf) | ((with_reducible refine bk_true ?_); conv => whnf) | ((with_reducible refine bk_false ?_); conv => whnf) | (refine ex_get rfl ?_; conv => whnf) | (refine ex_cs rfl rfl ?_; conv => whnf) | ((with_reducible refine bk_nt ?_); conv => whnf) | ((with_reducible refine bk_nf ?_); conv => whnf))))
                  refine ⟨[.b (iter (t.ends s) (min n M) f m)], by rw [Int.toNat_natCast]; exact brows_get (by omega), ?_⟩
                  ((conv => whnf) <;> (repeat (first | (refine And.intro (by first | omega | exact rfl | exact trivial | exact Nat.le_of_ble_eq_true rfl | (simp only [List.length_cons, List.length_nil]; omega)) ?_; conv => whnf) | (refine And.intro ?_ trivial; conv => whnf) | ((with_reducible refine bk_true ?_); conv => whnf) | ((with_reducible refine bk_false ?_); conv => whnf) | (refine ex_get rfl ?_; conv => whnf) | (refine ex_cs rfl rfl ?_; conv => whnf) | ((with_reducible refine bk_nt ?_); conv => whnf) | ((with_reducible refine bk_nf ?_); conv => whnf))))
                  refine ⟨[.b (((List.range n).any fun q => decide (lo.toNat ≤ q) && iter (t.ends s) q f m) || (decide (m < m) && iter (t.ends s) (min n M) f m))], by rw [Nat.zero_add, Int.toNat_natCast]; exact brows_get (by omega), rfl, Nat.le_refl _, ?_⟩
                  ((conv => whnf) <;> (repeat (first | (refine And.intro (by first | omega | exact rfl | exact trivial | exact Nat.le_of_ble_eq_true rfl | (simp only [List.length_cons, List.length_nil]; omega)) ?_; conv => whnf) | (refine And.intro ?_ trivial; conv => whnf) | ((with_reducible refine bk_true ?_); conv => whnf) | ((with_reducible refine bk_false ?_); conv => whnf) | (refine ex_get rfl ?_; conv => whnf) | (refine ex_cs rfl rfl ?_; conv => whnf) | ((with_reducible refine bk_nt ?_); conv => whnf) | ((with_reducible refine bk_nf ?_); conv => whnf))))
                  refine ⟨m + 1, hmlt, (show s.length + 1 - (m + 1) < s.length + 1 - m by omega), ?_⟩
                  (refine ⟨⟨rfl, rfl⟩, ?_, ?_⟩ <;> (repeat' (first | exact TLe.nil | exact HLe.nil _ | refine TLe.cons ?_ ?_ | refine HLe.cons ?_ ?_ | exact KLe.ptr rfl | exact KLe.sl rfl (.inl rfl) | exact KLe.csl rfl | refine KLe.pe ?_ | refine BLe.pe ?_ | refine BLe.mx ?_ | exact KLeL.nil | refine KLe.fn ?_ ?_ | refine KLeL.cons ?_ ?_ | exact KLe.und _ | exact BLe.dead _)) <;> (try with_reducible rfl))
                  all_goals first | ((refine congrArg (PV.int IntKind.i64) ?_) <;> (first | rfl | omega | (rw [add64 (by omega) (by omega)]; omega) | (rw [sub64 (by omega) (by omega)]; omega))) | skip
                  rw [Nat.zero_add, Int.toNat_natCast]
                  refine brows_set (v := iter (t.ends s) (min n M) f m) (fun j hj hne => ?_) ?_ (by omega)
                  · rw [show decide (j < m + 1) = decide (j < m) from decide_eq_decide.2 (by omega)]
                  · rw [decide_eq_false (Nat.lt_irrefl _), Bool.false_and, Bool.or_false] at hb
                    rw [hb, Bool.false_or, decide_eq_true (Nat.lt_succ_self _), Bool.true_and]
              · have hme : m = s.length + 1 := by have := lss_f hb; omega
                ((conv => whnf) <;> (repeat (first | (refine And.intro (by first | omega | exact rfl | exact trivial | exact Nat.le_of_ble_eq_true rfl | (simp only [List.length_cons, List.length_nil]; omega)) ?_; conv => whnf) | (refine And.intro ?_ trivial; conv => whnf) | ((with_reducible refine bk_true ?_); conv => whnf) | ((with_reducible refine bk_false ?_); conv => whnf) | (refine ex_get rfl ?_; conv => whnf) | (refine ex_cs rfl rfl ?_; conv => whnf) | ((with_reducible refine bk_nt ?_); conv => whnf) | ((with_reducible refine bk_nf ?_); conv => whnf))))
                rcases Nat.lt_or_ge n M with hnM | hnM
                · refine bk_is (lssT (by omega)) ?_
                  ((conv => whnf) <;> (repeat (first | (refine And.intro (by first | omega | exact rfl | exact trivial | exact Nat.le_of_ble_eq_true rfl | (simp only [List.length_cons, List.length_nil]; omega)) ?_; conv => whnf) | (refine And.intro ?_ trivial; conv => whnf) | ((with_reducible refine bk_true ?_); conv => whnf) | ((with_reducible refine bk_false ?_); conv => whnf) | (refine ex_get rfl ?_; conv => whnf) | (refine ex_cs rfl rfl ?_; conv => whnf) | ((with_reducible refine bk_nt ?_); conv => whnf) | ((with_reducible refine bk_nf ?_); conv => whnf))))
                  refine ⟨t.cells, t.take8, t.len8, ?_⟩
                  ((conv => whnf) <;> (repeat (first | (refine And.intro (by first | omega | exact rfl | exact trivial | exact Nat.le_of_ble_eq_true rfl | (simp only [List.length_cons, List.length_nil]; omega)) ?_; conv => whnf) | (refine And.intro ?_ trivial; conv => whnf) | ((with_reducible refine bk_true ?_); conv => whnf) | ((with_reducible refine bk_false ?_); conv => whnf) | (refine ex_get rfl ?_; conv => whnf) | (refine ex_cs rfl rfl ?_; conv => whnf) | ((with_reducible refine bk_nt ?_); conv => whnf) | ((with_reducible refine bk_nf ?_); conv => whnf))))
                  refine vcall_pf (ih t (by simp) (hT.sub t (by simp)) (ok_sub hok (by simp)) _) rfl rfl ?_
                  ((conv => whnf) <;> (repeat (first | (refine And.intro (by first | omega | exact rfl | exact trivial | exact Nat.le_of_ble_eq_true rfl | (simp only [List.length_cons, List.length_nil]; omega)) ?_; conv => whnf) | (refine And.intro ?_ trivial; conv => whnf) | ((with_reducible refine bk_true ?_); conv => whnf) | ((with_reducible refine bk_false ?_); conv => whnf) | (refine ex_get rfl ?_; conv => whnf) | (refine ex_cs rfl rfl ?_; conv => whnf) | ((with_reducible refine bk_nt ?_); conv => whnf) | ((with_reducible refine bk_nf ?_); conv => whnf))))
                  refine ⟨n + 1, (show n + 1 ≤ M + 1 by omega), (show M + 1 - (n + 1) < M + 1 - n by omega), ?_⟩
                  (refine ⟨⟨rfl, rfl⟩, ?_, ?_⟩ <;> (repeat' (first | exact TLe.nil | exact HLe.nil _ | refine TLe.cons ?_ ?_ | refine HLe.cons ?_ ?_ | exact KLe.ptr rfl | exact KLe.sl rfl (.inl rfl) | exact KLe.csl rfl | refine KLe.pe ?_ | refine BLe.pe ?_ | refine BLe.mx ?_ | exact KLeL.nil | refine KLe.fn ?_ ?_ | refine KLeL.cons ?_ ?_ | exact KLe.und _ | exact BLe.dead _)) <;> (try with_reducible rfl))
                  all_goals first | ((refine congrArg (PV.int IntKind.i64) ?_) <;> (first | rfl | omega | (rw [add64 (by omega) (by omega)]; omega) | (rw [sub64 (by omega) (by omega)]; omega))) | skip
                  · rw [Nat.min_eq_left (by omega : n ≤ M), Nat.min_eq_left (by omega : n + 1 ≤ M)]; rfl
                  · exact brows_congr fun j hj => by rw [List.range_succ, List.any_append]; simp only [List.any_cons, List.any_nil, Bool.or_false]; rw [decide_eq_true (by omega : lo.toNat ≤ n), decide_eq_true (by omega : j < m), Bool.true_and, Bool.true_and, hE]
                · have hne : n = M := by omega
                  refine bk_is (lssF (by omega)) ?_
                  ((conv => whnf) <;> (repeat (first | (refine And.intro (by first | omega | exact rfl | exact trivial | exact Nat.le_of_ble_eq_true rfl | (simp only [List.length_cons, List.length_nil]; omega)) ?_; conv => whnf) | (refine And.intro ?_ trivial; conv => whnf) | ((with_reducible refine bk_true ?_); conv => whnf) | ((with_reducible refine bk_false ?_); conv => whnf) | (refine ex_get rfl ?_; conv => whnf) | (refine ex_cs rfl rfl ?_; conv => whnf) | ((with_reducible refine bk_nt ?_); conv => whnf) | ((with_reducible refine bk_nf ?_); conv => whnf))))
                  refine ⟨n + 1, (show n + 1 ≤ M + 1 by omega), (show M + 1 - (n + 1) < M + 1 - n by omega), ?_⟩
                  (refine ⟨⟨rfl, rfl⟩, ?_, ?_⟩ <;> (repeat' (first | exact TLe.nil | exact HLe.nil _ | refine TLe.cons ?_ ?_ | refine HLe.cons ?_ ?_ | exact KLe.ptr rfl | exact KLe.sl rfl (.inl rfl) | exact KLe.csl rfl | refine KLe.pe ?_ | refine BLe.pe ?_ | refine BLe.mx ?_ | exact KLeL.nil | refine KLe.fn ?_ ?_ | refine KLeL.cons ?_ ?_ | exact KLe.und _ | exact BLe.dead _)) <;> (try with_reducible rfl))
                  all_goals first | ((refine congrArg (PV.int IntKind.i64) ?_) <;> (first | rfl | omega | (rw [add64 (by omega) (by omega)]; omega) | (rw [sub64 (by omega) (by omega)]; omega))) | skip
                  · rw [Nat.min_eq_right (by omega : M ≤ n), Nat.min_eq_right (by omega : M ≤ n + 1)]
                  · exact brows_congr fun j hj => by rw [List.range_succ, List.any_append]; simp only [List.any_cons, List.any_nil, Bool.or_false]; rw [decide_eq_true (by omega : lo.toNat ≤ n), decide_eq_true (by omega : j < m), Bool.true_and, Bool.true_and, hE]
        · have hnM' : n = M + 1 := by have := leq_f hb; omega
          ((conv => whnf) <;> (repeat (first | (refine And.intro (by first | omega | exact rfl | exact trivial | exact Nat.le_of_ble_eq_true rfl | (simp only [List.length_cons, List.length_nil]; omega)) ?_; conv => whnf) | (refine And.intro ?_ trivial; conv => whnf) | ((with_reducible refine bk_true ?_); conv => whnf) | ((with_reducible refine bk_false ?_); conv => whnf) | (refine ex_get rfl ?_; conv => whnf) | (refine ex_cs rfl rfl ?_; conv => whnf) | ((with_reducible refine bk_nt ?_); conv => whnf) | ((with_reducible refine bk_nf ?_); conv => whnf))))
          refine ⟨.p (bools s.length (repE (t.ends s) lo.toNat M f)), [], ⟨rfl, rfl⟩, ⟨rfl, rfl⟩, KLe.fsl (rs := brows s.length (repE (t.ends s) lo.toNat M f)) rfl rfl ?_ (hbl _) (.refl _), .nil _⟩
          rw [hnM']
          exact take_all (l := brows s.length _) (by rw [hbl]; exact Nat.le_refl _)
    · rw [if_neg (by omega)] at hM
      have hM64 : M ≤ 64 := by omega
      refine bk_is (lssF hh) ?_
      ((conv => whnf) <;> (repeat (first | (refine And.intro (by first | omega | exact rfl | exact trivial | exact Nat.le_of_ble_eq_true rfl | (simp only [List.length_cons, List.length_nil]; omega)) ?_; conv => whnf) | (refine And.intro ?_ trivial; conv => whnf) | ((with_reducible refine bk_true ?_); conv => whnf) | ((with_reducible refine bk_false ?_); conv => whnf) | (refine ex_get rfl ?_; conv => whnf) | (refine ex_cs rfl rfl ?_; conv => whnf) | ((with_reducible refine bk_nt ?_); conv => whnf) | ((with_reducible refine bk_nf ?_); conv => whnf))))
      refine ⟨[], Nat, fun n => ⟨[(1, .p (.str s)), (3, .ptr 0 8 0 0), (7, .sl 1 1 0 (s.length + 1) none), (13, .p (bools s.length (iter (t.ends s) (min n M) f))), (14, .p (i64 M)), (15, .p (i64 n))],
          [Tr.blk 4 set [t] lo hi, .pr 1 (brows s.length fun j => (List.range n).any fun q => decide (lo.toNat ≤ q) && iter (t.ends s) q f j)]⟩,
        fun n => n ≤ M + 1, fun n => M + 1 - n, ⟨0, Nat.zero_le _, ?_⟩, fun n hnle => ?_⟩
      · (refine ⟨⟨rfl, rfl⟩, ?_, ?_⟩ <;> (repeat' (first | exact TLe.nil | exact HLe.nil _ | refine TLe.cons ?_ ?_ | refine HLe.cons ?_ ?_ | exact KLe.ptr rfl | exact KLe.sl rfl (.inl rfl) | exact KLe.csl rfl | refine KLe.pe ?_ | refine BLe.pe ?_ | refine BLe.mx ?_ | exact KLeL.nil | refine KLe.fn ?_ ?_ | refine KLeL.cons ?_ ?_ | exact KLe.und _ | exact BLe.dead _)) <;> (try with_reducible rfl))
        all_goals first | rfl | skip
        · exact congrArg (PV.int .i64) (by omega)
        · rw [hz]; rfl
      · have hnle : n ≤ M + 1 := hnle
        ((conv => whnf) <;> (repeat (first | (refine And.intro (by first | omega | exact rfl | exact trivial | exact Nat.le_of_ble_eq_true rfl | (simp only [List.length_cons, List.length_nil]; omega)) ?_; conv => whnf) | (refine And.intro ?_ trivial; conv => whnf) | ((with_reducible refine bk_true ?_); conv => whnf) | ((with_reducible refine bk_false ?_); conv => whnf) | (refine ex_get rfl ?_; conv => whnf) | (refine ex_cs rfl rfl ?_; conv => whnf) | ((with_reducible refine bk_nt ?_); conv => whnf) | ((with_reducible refine bk_nf ?_); conv => whnf))))
        (refine bk_split (fun hb => ?_) (fun hb => ?_))
        · have hnM' : n ≤ M := by have := leq_t hb; omega
          have hE : min n M = n := Nat.min_eq_left hnM'
          ((conv => whnf) <;> (repeat (first | (refine And.intro (by first | omega | exact rfl | exact trivial | exact Nat.le_of_ble_eq_true rfl | (simp only [List.length_cons, List.length_nil]; omega)) ?_; conv => whnf) | (refine And.intro ?_ trivial; conv => whnf) | ((with_reducible refine bk_true ?_); conv => whnf) | ((with_reducible refine bk_false ?_); conv => whnf) | (refine ex_get rfl ?_; conv => whnf) | (refine ex_cs rfl rfl ?_; conv => whnf) | ((with_reducible refine bk_nt ?_); conv => whnf) | ((with_reducible refine bk_nf ?_); conv => whnf))))
          rcases Int.lt_or_le (n : Int) lo with hlo | hlo
          · refine bk_is (geqF (by omega)) ?_
            ((conv => whnf) <;> (repeat (first | (refine And.intro (by first | omega | exact rfl | exact trivial | exact Nat.le_of_ble_eq_true rfl | (simp only [List.length_cons, List.length_nil]; omega)) ?_; conv => whnf) | (refine And.intro ?_ trivial; conv => whnf) | ((with_reducible refine bk_true ?_); conv => whnf) | ((with_reducible refine bk_false ?_); conv => whnf) | (refine ex_get rfl ?_; conv => whnf) | (refine ex_cs rfl rfl ?_; conv => whnf) | ((with_reducible refine bk_nt ?_); conv => whnf) | ((with_reducible refine bk_nf ?_); conv => whnf))))
            rcases Nat.lt_or_ge n M with hnM | hnM
            · refine bk_is (lssT (by omega)) ?_
              ((conv => whnf) <;> (repeat (first | (refine And.intro (by first | omega | exact rfl | exact trivial | exact Nat.le_of_ble_eq_true rfl | (simp only [List.length_cons, List.length_nil]; omega)) ?_; conv => whnf) | (refine And.intro ?_ trivial; conv => whnf) | ((with_reducible refine bk_true ?_); conv => whnf) | ((with_reducible refine bk_false ?_); conv => whnf) | (refine ex_get rfl ?_; conv => whnf) | (refine ex_cs rfl rfl ?_; conv => whnf) | ((with_reducible refine bk_nt ?_); conv => whnf) | ((with_reducible refine bk_nf ?_); conv => whnf))))
              refine ⟨t.cells, t.take8, t.len8, ?_⟩
              ((conv => whnf) <;> (repeat (first | (refine And.intro (by first | omega | exact rfl | exact trivial | exact Nat.le_of_ble_eq_true rfl | (simp only [List.length_cons, List.length_nil]; omega)) ?_; conv => whnf) | (refine And.intro ?_ trivial; conv => whnf) | ((with_reducible refine bk_true ?_); conv => whnf) | ((with_reducible refine bk_false ?_); conv => whnf) | (refine ex_get rfl ?_; conv => whnf) | (refine ex_cs rfl rfl ?_; conv => whnf) | ((with_reducible refine bk_nt ?_); conv => whnf) | ((with_reducible refine bk_nf ?_); conv => whnf))))
              refine vcall_pf (ih t (by simp) (hT.sub t (by simp)) (ok_sub hok (by simp)) _) rfl rfl ?_
              ((conv => whnf) <;> (repeat (first | (refine And.intro (by first | omega | exact rfl | exact trivial | exact Nat.le_of_ble_eq_true rfl | (simp only [List.length_cons, List.length_nil]; omega)) ?_; conv => whnf) | (refine And.intro ?_ trivial; conv => whnf) | ((with_reducible refine bk_true ?_); conv => whnf) | ((with_reducible refine bk_false ?_); conv => whnf) | (refine ex_get rfl ?_; conv => whnf) | (refine ex_cs rfl rfl ?_; conv => whnf) | ((with_reducible refine bk_nt ?_); conv => whnf) | ((with_reducible refine bk_nf ?_); conv => whnf))))
              refine ⟨n + 1, (show n + 1 ≤ M + 1 by omega), (show M + 1 - (n + 1) < M + 1 - n by omega), ?_⟩
              (refine ⟨⟨rfl, rfl⟩, ?_, ?_⟩ <;> (repeat' (first | exact TLe.nil | exact HLe.nil _ | refine TLe.cons ?_ ?_ | refine HLe.cons ?_ ?_ | exact KLe.ptr rfl | exact KLe.sl rfl (.inl rfl) | exact KLe.csl rfl | refine KLe.pe ?_ | refine BLe.pe ?_ | refine BLe.mx ?_ | exact KLeL.nil | refine KLe.fn ?_ ?_ | refine KLeL.cons ?_ ?_ | exact KLe.und _ | exact BLe.dead _)) <;> (try with_reducible rfl))
              all_goals first | ((refine congrArg (PV.int IntKind.i64) ?_) <;> (first | rfl | omega | (rw [add64 (by omega) (by omega)]; omega) | (rw [sub64 (by omega) (by omega)]; omega))) | skip
              · rw [Nat.min_eq_left (by omega : n ≤ M), Nat.min_eq_left (by omega : n + 1 ≤ M)]; rfl
              · exact brows_congr fun j hj => by rw [List.range_succ, List.any_append]; simp only [List.any_cons, List.any_nil, Bool.or_false]; rw [decide_eq_false (by omega), Bool.false_and, Bool.or_false]
            · have hne : n = M := by omega
              refine bk_is (lssF (by omega)) ?_
              ((conv => whnf) <;> (repeat (first | (refine And.intro (by first | omega | exact rfl | exact trivial | exact Nat.le_of_ble_eq_true rfl | (simp only [List.length_cons, List.length_nil]; omega)) ?_; conv => whnf) | (refine And.intro ?_ trivial; conv => whnf) | ((with_reducible refine bk_true ?_); conv => whnf) | ((with_reducible refine bk_false ?_); conv => whnf) | (refine ex_get rfl ?_; conv => whnf) | (refine ex_cs rfl rfl ?_; conv => whnf) | ((with_reducible refine bk_nt ?_); conv => whnf) | ((with_reducible refine bk_nf ?_); conv => whnf))))
              refine ⟨n + 1, (show n + 1 ≤ M + 1 by omega), (show M + 1 - (n + 1) < M + 1 - n by omega), ?_⟩
              (refine ⟨⟨rfl, rfl⟩, ?_, ?_⟩ <;> (repeat' (first | exact TLe.nil | exact HLe.nil _ | refine TLe.cons ?_ ?_ | refine HLe.cons ?_ ?_ | exact KLe.ptr rfl | exact KLe.sl rfl (.inl rfl) | exact KLe.csl rfl | refine KLe.pe ?_ | refine BLe.pe ?_ | refine BLe.mx ?_ | exact KLeL.nil | refine KLe.fn ?_ ?_ | refine KLeL.cons ?_ ?_ | exact KLe.und _ | exact BLe.dead _)) <;> (try with_reducible rfl))
              all_goals first | ((refine congrArg (PV.int IntKind.i64) ?_) <;> (first | rfl | omega | (rw [add64 (by omega) (by omega)]; omega) | (rw [sub64 (by omega) (by omega)]; omega))) | skip
              · rw [Nat.min_eq_right (by omega : M ≤ n), Nat.min_eq_right (by omega : M ≤ n + 1)]
              · exact brows_congr fun j hj => by rw [List.range_succ, List.any_append]; simp only [List.any_cons, List.any_nil, Bool.or_false]; rw [decide_eq_false (by omega), Bool.false_and, Bool.or_false]
          · refine bk_is (geqT (by omega)) ?_
            ((conv => whnf) <;> (repeat (first | (refine And.intro (by first | omega | exact rfl | exact trivial | exact Nat.le_of_ble_eq_true rfl | (simp only [List.length_cons, List.length_nil]; omega)) ?_; conv => whnf) | (refine And.intro ?_ trivial; conv => whnf) | ((with_reducible refine bk_true ?_); conv => whnf) | ((with_reducible refine bk_false ?_); conv => whnf) | (refine ex_get rfl ?_; conv => whnf) | (refine ex_cs rfl rfl ?_; conv => whnf) | ((with_reducible refine bk_nt ?_); conv => whnf) | ((with_reducible refine bk_nf ?_); conv => whnf))))
            refine ⟨[], Nat, fun m => ⟨[(1, .p (.str s)), (3, .ptr 0 8 0 0), (7, .sl 1 1 0 (s.length + 1) none), (13, .p (bools s.length (iter (t.ends s) (min n M) f))), (14, .p (i64 M)), (15, .p (i64 n)), (16, .p (i64 m))],
                [Tr.blk 4 set [t] lo hi, .pr 1 (brows s.length fun j => ((List.range n).any fun q => decide (lo.toNat ≤ q) && iter (t.ends s) q f j) || (decide (j < m) && iter (t.ends s) (min n M) f j))]⟩,
              fun m => m ≤ s.length + 1, fun m => s.length + 1 - m, ⟨0, Nat.zero_le _, ?_⟩, fun m hm => ?_⟩
            · (refine ⟨⟨rfl, rfl⟩, ?_, ?_⟩ <;> (repeat' (first | exact TLe.nil | exact HLe.nil _ | refine TLe.cons ?_ ?_ | refine HLe.cons ?_ ?_ | exact KLe.ptr rfl | exact KLe.sl rfl (.inl rfl) | exact KLe.csl rfl | refine KLe.pe ?_ | refine BLe.pe ?_ | refine BLe.mx ?_ | exact KLeL.nil | refine KLe.fn ?_ ?_ | refine KLeL.cons ?_ ?_ | exact KLe.und _ | exact BLe.dead _)) <;> (try with_reducible rfl))
              all_goals first | rfl | skip
              exact brows_congr fun j hj => by simp
            · have hm : m ≤ s.length + 1 := hm
              have hbt := hbl (iter (t.ends s) (min n M) f)
              have hbg := hbl fun j => ((List.range n).any fun q => decide (lo.toNat ≤ q) && iter (t.ends s) q f j) || (decide (j < m) && iter (t.ends s) (min n M) f j)
              ((conv => whnf) <;> (repeat (first | (refine And.intro (by first | omega | exact rfl | exact trivial | exact Nat.le_of_ble_eq_true rfl | (simp only [List.length_cons, List.length_nil]; omega)) ?_; conv => whnf) | (refine And.intro ?_ trivial; conv => whnf) | ((with_reducible refine bk_true ?_); conv => whnf) | ((with_reducible refine bk_false ?_); conv => whnf) | (refine ex_get rfl ?_; conv => whnf) | (refine ex_cs rfl rfl ?_; conv => whnf) | ((with_reducible refine bk_nt ?_); conv => whnf) | ((with_reducible refine bk_nf ?_); conv => whnf))))
              (refine bk_split (fun hb => ?_) (fun hb => ?_))
              · have hmlt : m < s.length + 1 := by have := lss_t hb; omega
                ((conv => whnf) <;> (repeat (first | (refine And.intro (by first | omega | exact rfl | exact trivial | exact Nat.le_of_ble_eq_true rfl | (simp only [List.length_cons, List.length_nil]; omega)) ?_; conv => whnf) | (refine And.intro ?_ trivial; conv => whnf) | ((with_reducible refine bk_true ?_); conv => whnf) | ((with_reducible refine bk_false ?_); conv => whnf) | (refine ex_get rfl ?_; conv => whnf) | (refine ex_cs rfl rfl ?_; conv => whnf) | ((with_reducible refine bk_nt ?_); conv => whnf) | ((with_reducible refine bk_nf ?_); conv => whnf))))
                refine ⟨[.b (((List.range n).any fun q => decide (lo.toNat ≤ q) && iter (t.ends s) q f m) || (decide (m < m) && iter (t.ends s) (min n M) f m))], by rw [Nat.zero_add, Int.toNat_natCast]; exact brows_get (by omega), ?_⟩
                ((conv => whnf) <;> (repeat (first | (refine And.intro (by first | omega | exact rfl | exact trivial | exact Nat.le_of_ble_eq_true rfl | (simp only [List.length_cons, List.length_nil]; omega)) ?_; conv => whnf) | (refine And.intro ?_ trivial; conv => whnf) | ((with_reducible refine bk_true ?_); conv => whnf) | ((with_reducible refine bk_false ?_); conv => whnf) | (refine ex_get rfl ?_; conv => whnf) | (refine ex_cs rfl rfl ?_; conv => whnf) | ((with_reducible refine bk_nt ?_); conv => whnf) | ((with_reducible refine bk_nf ?_); conv => whnf))))
                (refine bk_split (fun hb => ?_) (fun hb => ?_))
                · ((conv => whnf) <;> (repeat (first | (refine And.intro (by first | omega | exact rfl | exact trivial | exact Nat.le_of_ble_eq_true rfl | (simp only [List.length_cons, List.length_nil]; omega)) ?_; conv => whnf) | (refine And.intro ?_ trivial; conv => whnf) | ((with_reducible refine bk_true ?_); conv => whnf) | ((with_reducible refine bk_false ?_); conv => whnf) | (refine ex_get rfl ?_; conv => whnf) | (refine ex_cs rfl rfl ?_; conv => whnf) | ((with_reducible refine bk_nt ?_); conv => whnf) | ((with_reducible refine bk_nf ?_); conv => whnf))))
                  refine ⟨[.b (((List.range n).any fun q => decide (lo.toNat ≤ q) && iter (t.ends s) q f m) || (decide (m < m) && iter (t.ends s) (min n M) f m))], by rw [Nat.zero_add, Int.toNat_natCast]; exact brows_get (by omega), rfl, Nat.le_refl _, ?_⟩
                  ((conv => whnf) <;> (repeat (first | (refine And.intro (by first | omega | exact rfl | exact trivial | exact Nat.le_of_ble_eq_true rfl | (simp only [List.length_cons, List.length_nil]; omega)) ?_; conv => whnf) | (refine And.intro ?_ trivial; conv => whnf) | ((with_reducible refine bk_true ?_); conv => whnf) | ((with_reducible refine bk_false ?_); conv => whnf) | (refine ex_get rfl ?_; conv => whnf) | (refine ex_cs rfl rfl ?_; conv => whnf) | ((with_reducible refine bk_nt ?_); conv => whnf) | ((with_reducible refine bk_nf ?_); conv => whnf))))
                  refine ⟨m + 1, hmlt, (show s.length + 1 - (m + 1) < s.length + 1 - m by omega), ?_⟩
                  (refine ⟨⟨rfl, rfl⟩, ?_, ?_⟩ <;> (repeat' (first | exact TLe.nil | exact HLe.nil _ | refine TLe.cons ?_ ?_ | refine HLe.cons ?_ ?_ | exact KLe.ptr rfl | exact KLe.sl rfl (.inl rfl) | exact KLe.csl rfl | refine KLe.pe ?_ | refine BLe.pe ?_ | refine BLe.mx ?_ | exact KLeL.nil | refine KLe.fn ?_ ?_ | refine KLeL.cons ?_ ?_ | exact KLe.und _ | exact BLe.dead _)) <;> (try with_reducible rfl))
                  all_goals first | ((refine congrArg (PV.int IntKind.i64) ?_) <;> (first | rfl | omega | (rw [add64 (by omega) (by omega)]; omega) | (rw [sub64 (by omega) (by omega)]; omega))) | skip
                  rw [Nat.zero_add, Int.toNat_natCast]
                  refine brows_set (v := true) (fun j hj hne => ?_) ?_ (by omega)
                  · rw [show decide (j < m + 1) = decide (j < m) from decide_eq_decide.2 (by omega)]
                  · rw [decide_eq_false (Nat.lt_irrefl _), Bool.false_and, Bool.or_false] at hb
                    rw [hb, Bool.true_or]
                · ((conv => whnf) <;> (repeat (first | (refine And.intro (by first | omega | exact rfl | exact trivial | exact Nat.le_of_ble_eq_true rfl | (simp only [List.length_cons, List.length_nil]; omega)) ?_; conv => whnf) | (refine And.intro ?_ trivial; conv => whnf) | ((with_reducible refine bk_true ?_); conv => whnf) | ((with_reducible refine bk_false ?_); conv => whnf) | (refine ex_get rfl ?_; conv => whnf) | (refine ex_cs rfl rfl ?_; conv => whnf) | ((with_reducible refine bk_nt ?_); conv => whnf) | ((with_reducible refine bk_nf ?_); conv => whnf))))
                  refine ⟨[.b (iter (t.ends s) (min n M) f m)], by rw [Int.toNat_natCast]; exact brows_get (by omega), ?_⟩
                  ((conv => whnf) <;> (repeat (first | (refine And.intro (by first | omega | exact rfl | exact trivial | exact Nat.le_of_ble_eq_true rfl | (simp only [List.length_cons, List.length_nil]; omega)) ?_; conv => whnf) | (refine And.intro ?_ trivial; conv => whnf) | ((with_reducible refine bk_true ?_); conv => whnf) | ((with_reducible refine bk_false ?_); conv => whnf) | (refine ex_get rfl ?_; conv => whnf) | (refine ex_cs rfl rfl ?_; conv => whnf) | ((with_reducible refine bk_nt ?_); conv => whnf) | ((with_reducible refine bk_nf ?_); conv => whnf))))
                  refine ⟨[.b (((List.range n).any fun q => decide (lo.toNat ≤ q) && iter (t.ends s) q f m) || (decide (m < m) && iter (t.ends s) (min n M) f m))], by rw [Nat.zero_add, Int.toNat_natCast]; exact brows_get (by omega), rfl, Nat.le_refl _, ?_⟩
                  ((conv => whnf) <;> (repeat (first | (refine And.intro (by first | omega | exact rfl | exact trivial | exact Nat.le_of_ble_eq_true rfl | (simp only [List.length_cons, List.length_nil]; omega)) ?_; conv => whnf) | (refine And.intro ?_ trivial; conv => whnf) | ((with_reducible refine bk_true ?_); conv => whnf) | ((with_reducible refine bk_false ?_); conv => whnf) | (refine ex_get rfl ?_; conv => whnf) | (refine ex_cs rfl rfl ?_; conv => whnf) | ((with_reducible refine bk_nt ?_); conv => whnf) | ((with_reducible refine bk_nf ?_); conv => whnf))))
                  refine ⟨m + 1, hmlt, (show s.length + 1 - (m + 1) < s.length + 1 - m by omega), ?_⟩
                  (refine ⟨⟨rfl, rfl⟩, ?_, ?_⟩ <;> (repeat' (first | exact TLe.nil | exact HLe.nil _ | refine TLe.cons ?_ ?_ | refine HLe.cons ?_ ?_ | exact KLe.ptr rfl | exact KLe.sl rfl (.inl rfl) | exact KLe.csl rfl | refine KLe.pe ?_ | refine BLe.pe ?_ | refine BLe.mx ?_ | exact KLeL.nil | refine KLe.fn ?_ ?_ | refine KLeL.cons ?_ ?_ | exact KLe.und _ | exact BLe.dead _)) <;> (try with_reducible rfl))
                  all_goals first | ((refine congrArg (PV.int IntKind.i64) ?_) <;> (first | rfl | omega | (rw [add64 (by omega) (by omega)]; omega) | (rw [sub64 (by omega) (by omega)]; omega))) | skip
                  rw [Nat.zero_add, Int.toNat_natCast]
                  refine brows_set (v := iter (t.ends s) (min n M) f m) (fun j hj hne => ?_) ?_ (by omega)
                  · rw [show decide (j < m + 1) = decide (j < m) from decide_eq_decide.2 (by omega)]
                  · rw [decide_eq_false (Nat.lt_irrefl _), Bool.false_and, Bool.or_false] at hb
                    rw [hb, Bool.false_or, decide_eq_true (Nat.lt_succ_self _), Bool.true_and]
              · have hme : m = s.length + 1 := by have := lss_f hb; omega
                ((conv => whnf) <;> (repeat (first | (refine And.intro (by first | omega | exact rfl | exact trivial | exact Nat.le_of_ble_eq_true rfl | (simp only [List.length_cons, List.length_nil]; omega)) ?_; conv => whnf) | (refine And.intro ?_ trivial; conv => whnf) | ((with_reducible refine bk_true ?_); conv => whnf) | ((with_reducible refine bk_false ?_); conv => whnf) | (refine ex_get rfl ?_; conv => whnf) | (refine ex_cs rfl rfl ?_; conv => whnf) | ((with_reducible refine bk_nt ?_); conv => whnf) | ((with_reducible refine bk_nf ?_); conv => whnf))))
                rcases Nat.lt_or_ge n M with hnM | hnM
                · refine bk_is (lssT (by omega)) ?_
                  ((conv => whnf) <;> (repeat (first | (refine And.intro (by first | omega | exact rfl | exact trivial | exact Nat.le_of_ble_eq_true rfl | (simp only [List.length_cons, List.length_nil]; omega)) ?_; conv => whnf) | (refine And.intro ?_ trivial; conv => whnf) | ((with_reducible refine bk_true ?_); conv => whnf) | ((with_reducible refine bk_false ?_); conv => whnf) | (refine ex_get rfl ?_; conv => whnf) | (refine ex_cs rfl rfl ?_; conv => whnf) | ((with_reducible refine bk_nt ?_); conv => whnf) | ((with_reducible refine bk_nf ?_); conv => whnf))))
                  refine ⟨t.cells, t.take8, t.len8, ?_⟩
                  ((conv => whnf) <;> (repeat (first | (refine And.intro (by first | omega | exact rfl | exact trivial | exact Nat.le_of_ble_eq_true rfl | (simp only [List.length_cons, List.length_nil]; omega)) ?_; conv => whnf) | (refine And.intro ?_ trivial; conv => whnf) | ((with_reducible refine bk_true ?_); conv => whnf) | ((with_reducible refine bk_false ?_); conv => whnf) | (refine ex_get rfl ?_; conv => whnf) | (refine ex_cs rfl rfl ?_; conv => whnf) | ((with_reducible refine bk_nt ?_); conv => whnf) | ((with_reducible refine bk_nf ?_); conv => whnf))))
                  refine vcall_pf (ih t (by simp) (hT.sub t (by simp)) (ok_sub hok (by simp)) _) rfl rfl ?_
                  ((conv => whnf) <;> (repeat (first | (refine And.intro (by first | omega | exact rfl | exact trivial | exact Nat.le_of_ble_eq_true rfl | (simp only [List.length_cons, List.length_nil]; omega)) ?_; conv => whnf) | (refine And.intro ?_ trivial; conv => whnf) | ((with_reducible refine bk_true ?_); conv => whnf) | ((with_reducible refine bk_false ?_); conv => whnf) | (refine ex_get rfl ?_; conv => whnf) | (refine ex_cs rfl rfl ?_; conv => whnf) | ((with_reducible refine bk_nt ?_); conv => whnf) | ((with_reducible refine bk_nf ?_); conv => whnf))))
                  refine ⟨n + 1, (show n + 1 ≤ M + 1 by omega), (show M + 1 - (n + 1) < M + 1 - n by omega), ?_⟩
                  (refine ⟨⟨rfl, rfl⟩, ?_, ?_⟩ <;> (repeat' (first | exact TLe.nil | exact HLe.nil _ | refine TLe.cons ?_ ?_ | refine HLe.cons ?_ ?_ | exact KLe.ptr rfl | exact KLe.sl rfl (.inl rfl) | exact KLe.csl rfl | refine KLe.pe ?_ | refine BLe.pe ?_ | refine BLe.mx ?_ | exact KLeL.nil | refine KLe.fn ?_ ?_ | refine KLeL.cons ?_ ?_ | exact KLe.und _ | exact BLe.dead _)) <;> (try with_reducible rfl))
                  all_goals first | ((refine congrArg (PV.int IntKind.i64) ?_) <;> (first | rfl | omega | (rw [add64 (by omega) (by omega)]; omega) | (rw [sub64 (by omega) (by omega)]; omega))) | skip
                  · rw [Nat.min_eq_left (by omega : n ≤ M), Nat.min_eq_left (by omega : n + 1 ≤ M)]; rfl
                  · exact brows_congr fun j hj => by rw [List.range_succ, List.any_append]; simp only [List.any_cons, List.any_nil, Bool.or_false]; rw [decide_eq_true (by omega : lo.toNat ≤ n), decide_eq_true (by omega : j < m), Bool.true_and, Bool.true_and, hE]
                · have hne : n = M := by omega
                  refine bk_is (lssF (by omega)) ?_
                  ((conv => whnf) <;> (repeat (first | (refine And.intro (by first | omega | exact rfl | exact trivial | exact Nat.le_of_ble_eq_true rfl | (simp only [List.length_cons, List.length_nil]; omega)) ?_; conv => whnf) | (refine And.intro ?_ trivial; conv => whnf) | ((with_reducible refine bk_true ?_); conv => whnf) | ((with_reducible refine bk_false ?_); conv => whnf) | (refine ex_get rfl ?_; conv => whnf) | (refine ex_cs rfl rfl ?_; conv => whnf) | ((with_reducible refine bk_nt ?_); conv => whnf) | ((with_reducible refine bk_nf ?_); conv => whnf))))
                  refine ⟨n + 1, (show n + 1 ≤ M + 1 by omega), (show M + 1 - (n + 1) < M + 1 - n by omega), ?_⟩
                  (refine ⟨⟨rfl, rfl⟩, ?_, ?_⟩ <;> (repeat' (first | exact TLe.nil | exact HLe.nil _ | refine TLe.cons ?_ ?_ | refine HLe.cons ?_ ?_ | exact KLe.ptr rfl | exact KLe.sl rfl (.inl rfl) | exact KLe.csl rfl | refine KLe.pe ?_ | refine BLe.pe ?_ | refine BLe.mx ?_ | exact KLeL.nil | refine KLe.fn ?_ ?_ | refine KLeL.cons ?_ ?_ | exact KLe.und _ | exact BLe.dead _)) <;> (try with_reducible rfl))
                  all_goals first | ((refine congrArg (PV.int IntKind.i64) ?_) <;> (first | rfl | omega | (rw [add64 (by omega) (by omega)]; omega) | (rw [sub64 (by omega) (by omega)]; omega))) | skip
                  · rw [Nat.min_eq_right (by omega : M ≤ n), Nat.min_eq_right (by omega : M ≤ n + 1)]
                  · exact brows_congr fun j hj => by rw [List.range_succ, List.any_append]; simp only [List.any_cons, List.any_nil, Bool.or_false]; rw [decide_eq_true (by omega : lo.toNat ≤ n), decide_eq_true (by omega : j < m), Bool.true_and, Bool.true_and, hE]
        · have hnM' : n = M + 1 := by have := leq_f hb; omega
          ((conv => whnf) <;> (repeat (first | (refine And.intro (by first | omega | exact rfl | exact trivial | exact Nat.le_of_ble_eq_true rfl | (simp only [List.length_cons, List.length_nil]; omega)) ?_; conv => whnf) | (refine And.intro ?_ trivial; conv => whnf) | ((with_reducible refine bk_true ?_); conv => whnf) | ((with_reducible refine bk_false ?_); conv => whnf) | (refine ex_get rfl ?_; conv => whnf) | (refine ex_cs rfl rfl ?_; conv => whnf) | ((with_reducible refine bk_nt ?_); conv => whnf) | ((with_reducible refine bk_nf ?_); conv => whnf))))
          refine ⟨.p (bools s.length (repE (t.ends s) lo.toNat M f)), [], ⟨rfl, rfl⟩, ⟨rfl, rfl⟩, KLe.fsl (rs := brows s.length (repE (t.ends s) lo.toNat M f)) rfl rfl ?_ (hbl _) (.refl _), .nil _⟩
          rw [hnM']
          exact take_all (l := brows s.length _) (by rw [hbl]; exact Nat.le_refl _)

end Hk
