/- The walks of rx.Same and RxMay. -/
import Derived.Test.YtmgkffdnnjpmpaaHkRxQ
namespace Hk
open Go Go.Proofs
set_option linter.unusedVariables false
set_option linter.unusedSimpArgs false
set_option maxRecDepth 100000

theorem equalFunc_fn (l m : List Tr) (hl : l.length < 2 ^ 63) (hm : m.length < 2 ^ 63) (hf : ∀ x ∈ l, ∀ y ∈ m, PF Try.prog 56 [x.pv, y.pv] (.b (x.same y))) :
    PF Try.prog 82 [.isl 8 (Tr.rowsL l) none, .isl 8 (Tr.rowsL m) none, .fn 56 [] []] (.b (Tr.sameL l m)) := by
  have hrl := Tr.rows_len l
  have hrm := Tr.rows_len m
  by_cases h5 : l.length = m.length
  case neg =>
    have e : Tr.sameL l m = false := by
      cases hs : Tr.sameL l m with
      | false => rfl
      | true => exact absurd (sameL_len hs) h5
    rw [e]
    refine pf_intro rf82_eq rmixed rfl ?_
    ((conv => whnf) <;> (repeat (first | (refine And.intro (by first | omega | exact rfl | exact trivial | exact Nat.le_of_ble_eq_true rfl | (simp only [List.length_cons, List.length_nil]; omega)) ?_; conv => whnf) | (refine And.intro ?_ trivial; conv => whnf) | ((with_reducible refine bk_true ?_); conv => whnf) | ((with_reducible refine bk_false ?_); conv => whnf) | (refine ex_get rfl ?_; conv => whnf) | (refine ex_cs rfl rfl ?_; conv => whnf) | ((with_reducible refine bk_nt ?_); conv => whnf) | ((with_reducible refine bk_nf ?_); conv => whnf))))
    refine bk_is (neqT (by omega)) ?_
    ((conv => whnf) <;> (repeat (first | (refine And.intro (by first | omega | exact rfl | exact trivial | exact Nat.le_of_ble_eq_true rfl | (simp only [List.length_cons, List.length_nil]; omega)) ?_; conv => whnf) | (refine And.intro ?_ trivial; conv => whnf) | ((with_reducible refine bk_true ?_); conv => whnf) | ((with_reducible refine bk_false ?_); conv => whnf) | (refine ex_get rfl ?_; conv => whnf) | (refine ex_cs rfl rfl ?_; conv => whnf) | ((with_reducible refine bk_nt ?_); conv => whnf) | ((with_reducible refine bk_nf ?_); conv => whnf))))
    exact ret_pf rfl rfl rfl
  refine pf_intro rf82_eq rmixed rfl ?_
  ((conv => whnf) <;> (repeat (first | (refine And.intro (by first | omega | exact rfl | exact trivial | exact Nat.le_of_ble_eq_true rfl | (simp only [List.length_cons, List.length_nil]; omega)) ?_; conv => whnf) | (refine And.intro ?_ trivial; conv => whnf) | ((with_reducible refine bk_true ?_); conv => whnf) | ((with_reducible refine bk_false ?_); conv => whnf) | (refine ex_get rfl ?_; conv => whnf) | (refine ex_cs rfl rfl ?_; conv => whnf) | ((with_reducible refine bk_nt ?_); conv => whnf) | ((with_reducible refine bk_nf ?_); conv => whnf))))
  refine bk_is (neqF (by omega)) ?_
  ((conv => whnf) <;> (repeat (first | (refine And.intro (by first | omega | exact rfl | exact trivial | exact Nat.le_of_ble_eq_true rfl | (simp only [List.length_cons, List.length_nil]; omega)) ?_; conv => whnf) | (refine And.intro ?_ trivial; conv => whnf) | ((with_reducible refine bk_true ?_); conv => whnf) | ((with_reducible refine bk_false ?_); conv => whnf) | (refine ex_get rfl ?_; conv => whnf) | (refine ex_cs rfl rfl ?_; conv => whnf) | ((with_reducible refine bk_nt ?_); conv => whnf) | ((with_reducible refine bk_nf ?_); conv => whnf))))
  refine ⟨[], Nat, fun i => ⟨[(1, .p (.isl 8 (Tr.rowsL m) none)), (2, .p (.fn 56 [] [])), (15, .p (.isl 8 (Tr.rowsL l) none)), (16, .p (i64 l.length)), (17, .p (i64 i))], []⟩,
    fun i => i ≤ l.length ∧ ∀ (j : Nat) x y, j < i → l[j]? = some x → m[j]? = some y → x.same y = true, fun i => l.length - i, ⟨0, ⟨Nat.zero_le _, fun j x y h => absurd h (by omega)⟩, ?_⟩, fun i hx => ?_⟩
  · (refine ⟨⟨rfl, rfl⟩, ?_, ?_⟩ <;> (repeat' (first | exact TLe.nil | exact HLe.nil _ | refine TLe.cons ?_ ?_ | refine HLe.cons ?_ ?_ | exact KLe.ptr rfl | exact KLe.sl rfl (.inl rfl) | exact KLe.csl rfl | refine KLe.pe ?_ | refine BLe.pe ?_ | refine BLe.mx ?_ | exact KLeL.nil | refine KLe.fn ?_ ?_ | refine KLeL.cons ?_ ?_ | exact KLe.und _ | exact BLe.dead _)) <;> (try with_reducible rfl))
    all_goals first | rfl | rw [hrl]
  · obtain ⟨hile, hall⟩ := hx
    ((conv => whnf) <;> (repeat (first | (refine And.intro (by first | omega | exact rfl | exact trivial | exact Nat.le_of_ble_eq_true rfl | (simp only [List.length_cons, List.length_nil]; omega)) ?_; conv => whnf) | (refine And.intro ?_ trivial; conv => whnf) | ((with_reducible refine bk_true ?_); conv => whnf) | ((with_reducible refine bk_false ?_); conv => whnf) | (refine ex_get rfl ?_; conv => whnf) | (refine ex_cs rfl rfl ?_; conv => whnf) | ((with_reducible refine bk_nt ?_); conv => whnf) | ((with_reducible refine bk_nf ?_); conv => whnf))))
    (refine bk_split (fun hb => ?_) (fun hb => ?_))
    · have hlt : i < l.length := by have := lss_t hb; omega
      obtain ⟨x, hx⟩ : ∃ x, l[i]? = some x := ⟨_, List.getElem?_eq_getElem hlt⟩
      obtain ⟨y, hy⟩ : ∃ y, m[i]? = some y := ⟨_, List.getElem?_eq_getElem (by omega)⟩
      have hxy := hf x (mem_get hx) y (mem_get hy)
      obtain ⟨sm, hsm⟩ : ∃ sm, x.same y = sm := ⟨_, rfl⟩
      rw [hsm] at hxy
      have hx' := Tr.rows_get hx
      have hy' := Tr.rows_get hy
      generalize hX : x = X at hxy hx'
      generalize hY : y = Y at hxy hy'
      obtain ⟨xk, xs, xsub, xlo, xhi⟩ := X
      obtain ⟨yk, ys, ysub, ylo, yhi⟩ := Y
      ((conv => whnf) <;> (repeat (first | (refine And.intro (by first | omega | exact rfl | exact trivial | exact Nat.le_of_ble_eq_true rfl | (simp only [List.length_cons, List.length_nil]; omega)) ?_; conv => whnf) | (refine And.intro ?_ trivial; conv => whnf) | ((with_reducible refine bk_true ?_); conv => whnf) | ((with_reducible refine bk_false ?_); conv => whnf) | (refine ex_get rfl ?_; conv => whnf) | (refine ex_cs rfl rfl ?_; conv => whnf) | ((with_reducible refine bk_nt ?_); conv => whnf) | ((with_reducible refine bk_nf ?_); conv => whnf))))
      refine ⟨_, by rw [Int.toNat_natCast]; exact hx', ?_⟩
      ((conv => whnf) <;> (repeat (first | (refine And.intro (by first | omega | exact rfl | exact trivial | exact Nat.le_of_ble_eq_true rfl | (simp only [List.length_cons, List.length_nil]; omega)) ?_; conv => whnf) | (refine And.intro ?_ trivial; conv => whnf) | ((with_reducible refine bk_true ?_); conv => whnf) | ((with_reducible refine bk_false ?_); conv => whnf) | (refine ex_get rfl ?_; conv => whnf) | (refine ex_cs rfl rfl ?_; conv => whnf) | ((with_reducible refine bk_nt ?_); conv => whnf) | ((with_reducible refine bk_nf ?_); conv => whnf))))
      refine ⟨_, by rw [Int.toNat_natCast]; exact hy', ?_⟩
      ((conv => whnf) <;> (repeat (first | (refine And.intro (by first | omega | exact rfl | exact trivial | exact Nat.le_of_ble_eq_true rfl | (simp only [List.length_cons, List.length_nil]; omega)) ?_; conv => whnf) | (refine And.intro ?_ trivial; conv => whnf) | ((with_reducible refine bk_true ?_); conv => whnf) | ((with_reducible refine bk_false ?_); conv => whnf) | (refine ex_get rfl ?_; conv => whnf) | (refine ex_cs rfl rfl ?_; conv => whnf) | ((with_reducible refine bk_nt ?_); conv => whnf) | ((with_reducible refine bk_nf ?_); conv => whnf))))
      refine vcall_pf hxy rfl rfl ?_
      cases sm with
      | false =>
        ((conv => whnf) <;> (repeat (first | (refine And.intro (by first | omega | exact rfl | exact trivial | exact Nat.le_of_ble_eq_true rfl | (simp only [List.length_cons, List.length_nil]; omega)) ?_; conv => whnf) | (refine And.intro ?_ trivial; conv => whnf) | ((with_reducible refine bk_true ?_); conv => whnf) | ((with_reducible refine bk_false ?_); conv => whnf) | (refine ex_get rfl ?_; conv => whnf) | (refine ex_cs rfl rfl ?_; conv => whnf) | ((with_reducible refine bk_nt ?_); conv => whnf) | ((with_reducible refine bk_nf ?_); conv => whnf))))
        refine ret_pf rfl rfl (congrArg PV.b ?_)
        cases hL : Tr.sameL l m with
        | false => rfl
        | true => rw [(sameL_iff h5).1 hL i x y hx hy] at hsm; cases hsm
      | true =>
        ((conv => whnf) <;> (repeat (first | (refine And.intro (by first | omega | exact rfl | exact trivial | exact Nat.le_of_ble_eq_true rfl | (simp only [List.length_cons, List.length_nil]; omega)) ?_; conv => whnf) | (refine And.intro ?_ trivial; conv => whnf) | ((with_reducible refine bk_true ?_); conv => whnf) | ((with_reducible refine bk_false ?_); conv => whnf) | (refine ex_get rfl ?_; conv => whnf) | (refine ex_cs rfl rfl ?_; conv => whnf) | ((with_reducible refine bk_nt ?_); conv => whnf) | ((with_reducible refine bk_nf ?_); conv => whnf))))
        refine ⟨i + 1, ⟨hlt, fun j a b hj ha hb' => ?_⟩, (show l.length - (i + 1) < l.length - i by omega), ?_⟩
        · rcases Nat.lt_or_ge j i with h | h
          · exact hall j a b h ha hb'
          · have : j = i := by omega
            subst this
            rw [hx] at ha
            rw [hy] at hb'
            cases ha
            cases hb'
            exact hsm
        · (refine ⟨⟨rfl, rfl⟩, ?_, ?_⟩ <;> (repeat' (first | exact TLe.nil | exact HLe.nil _ | refine TLe.cons ?_ ?_ | refine HLe.cons ?_ ?_ | exact KLe.ptr rfl | exact KLe.sl rfl (.inl rfl) | exact KLe.csl rfl | refine KLe.pe ?_ | refine BLe.pe ?_ | refine BLe.mx ?_ | exact KLeL.nil | refine KLe.fn ?_ ?_ | refine KLeL.cons ?_ ?_ | exact KLe.und _ | exact BLe.dead _)) <;> (try with_reducible rfl))
          all_goals first | ((refine congrArg (PV.int IntKind.i64) ?_) <;> (first | rfl | omega | (rw [add64 (by omega) (by omega)]; omega) | (rw [sub64 (by omega) (by omega)]; omega))) | skip
    · have hie : i = l.length := by have := lss_f hb; omega
      ((conv => whnf) <;> (repeat (first | (refine And.intro (by first | omega | exact rfl | exact trivial | exact Nat.le_of_ble_eq_true rfl | (simp only [List.length_cons, List.length_nil]; omega)) ?_; conv => whnf) | (refine And.intro ?_ trivial; conv => whnf) | ((with_reducible refine bk_true ?_); conv => whnf) | ((with_reducible refine bk_false ?_); conv => whnf) | (refine ex_get rfl ?_; conv => whnf) | (refine ex_cs rfl rfl ?_; conv => whnf) | ((with_reducible refine bk_nt ?_); conv => whnf) | ((with_reducible refine bk_nf ?_); conv => whnf))))
      refine ret_pf rfl rfl (congrArg PV.b ?_)
      exact ((sameL_iff h5).2 fun j x y hx hy => hall j x y (by have := (List.getElem?_eq_some_iff.1 hx).1; omega) hx hy).symm

theorem rxSame_fn (A B : Tr) (hA : A.Fit) (hB : B.Fit) : PF Try.prog 56 [A.pv, B.pv] (.b (A.same B)) := by
  induction A using Tr.ind' generalizing B with | h k s sub lo hi ih => ?_
  obtain ⟨k', s', sub', lo', hi'⟩ := B
  have h82 := equalFunc_fn sub sub' hA.len hB.len fun x hx y hy => ih x hx y (hA.sub x hx) (hB.sub y hy)
  have hA1 := bareOf_fn k s sub lo hi
  have hB1 := bareOf_fn k' s' sub' lo' hi'
  have hlen : Tr.sameL sub sub' = true → sub.length = sub'.length := sameL_len
  have e : (Tr.mk k s sub lo hi).same (.mk k' s' sub' lo' hi') = (decide ((k : Int) = k' ∧ lo = lo' ∧ hi = hi' ∧ (sub.length : Int) = sub'.length ∧ s = s') && Tr.sameL sub sub') := by
    rw [Tr.same, Bool.eq_iff_iff]
    simp only [Bool.and_eq_true, decide_eq_true_iff]
    constructor
    · rintro ⟨h1, h2, h3, h4, h5⟩; exact ⟨⟨h1, h3, h4, by rw [hlen h5], h2⟩, h5⟩
    · rintro ⟨⟨h1, h3, h4, _, h2⟩, h5⟩; exact ⟨h1, h2, h3, h4, h5⟩
  rw [e]
  generalize Tr.sameL sub sub' = L at h82
  refine pf_intro rf56_eq rmixed rfl ?_
  ((conv => whnf) <;> (repeat (first | (refine And.intro (by first | omega | exact rfl | exact trivial | exact Nat.le_of_ble_eq_true rfl | (simp only [List.length_cons, List.length_nil]; omega)) ?_; conv => whnf) | (refine And.intro ?_ trivial; conv => whnf) | ((with_reducible refine bk_true ?_); conv => whnf) | ((with_reducible refine bk_false ?_); conv => whnf) | (refine ex_get rfl ?_; conv => whnf) | (refine ex_cs rfl rfl ?_; conv => whnf) | ((with_reducible refine bk_nt ?_); conv => whnf) | ((with_reducible refine bk_nf ?_); conv => whnf))))
  refine vcall_pf hA1 rfl rfl ?_
  ((conv => whnf) <;> (repeat (first | (refine And.intro (by first | omega | exact rfl | exact trivial | exact Nat.le_of_ble_eq_true rfl | (simp only [List.length_cons, List.length_nil]; omega)) ?_; conv => whnf) | (refine And.intro ?_ trivial; conv => whnf) | ((with_reducible refine bk_true ?_); conv => whnf) | ((with_reducible refine bk_false ?_); conv => whnf) | (refine ex_get rfl ?_; conv => whnf) | (refine ex_cs rfl rfl ?_; conv => whnf) | ((with_reducible refine bk_nt ?_); conv => whnf) | ((with_reducible refine bk_nf ?_); conv => whnf))))
  refine vcall_pf hB1 rfl rfl ?_
  ((conv => whnf) <;> (repeat (first | (refine And.intro (by first | omega | exact rfl | exact trivial | exact Nat.le_of_ble_eq_true rfl | (simp only [List.length_cons, List.length_nil]; omega)) ?_; conv => whnf) | (refine And.intro ?_ trivial; conv => whnf) | ((with_reducible refine bk_true ?_); conv => whnf) | ((with_reducible refine bk_false ?_); conv => whnf) | (refine ex_get rfl ?_; conv => whnf) | (refine ex_cs rfl rfl ?_; conv => whnf) | ((with_reducible refine bk_nt ?_); conv => whnf) | ((with_reducible refine bk_nf ?_); conv => whnf))))
  refine bk_c8 k lo hi sub.length k' lo' hi' sub'.length s s' (fun h => ?_) (fun h => ?_)
  · rw [decide_eq_true h]
    ((conv => whnf) <;> (repeat (first | (refine And.intro (by first | omega | exact rfl | exact trivial | exact Nat.le_of_ble_eq_true rfl | (simp only [List.length_cons, List.length_nil]; omega)) ?_; conv => whnf) | (refine And.intro ?_ trivial; conv => whnf) | ((with_reducible refine bk_true ?_); conv => whnf) | ((with_reducible refine bk_false ?_); conv => whnf) | (refine ex_get rfl ?_; conv => whnf) | (refine ex_cs rfl rfl ?_; conv => whnf) | ((with_reducible refine bk_nt ?_); conv => whnf) | ((with_reducible refine bk_nf ?_); conv => whnf))))
    refine vcall_pf h82 rfl rfl ?_
    ((conv => whnf) <;> (repeat (first | (refine And.intro (by first | omega | exact rfl | exact trivial | exact Nat.le_of_ble_eq_true rfl | (simp only [List.length_cons, List.length_nil]; omega)) ?_; conv => whnf) | (refine And.intro ?_ trivial; conv => whnf) | ((with_reducible refine bk_true ?_); conv => whnf) | ((with_reducible refine bk_false ?_); conv => whnf) | (refine ex_get rfl ?_; conv => whnf) | (refine ex_cs rfl rfl ?_; conv => whnf) | ((with_reducible refine bk_nt ?_); conv => whnf) | ((with_reducible refine bk_nf ?_); conv => whnf))))
    exact ret_pf rfl rfl rfl
  · rw [decide_eq_false h]
    ((conv => whnf) <;> (repeat (first | (refine And.intro (by first | omega | exact rfl | exact trivial | exact Nat.le_of_ble_eq_true rfl | (simp only [List.length_cons, List.length_nil]; omega)) ?_; conv => whnf) | (refine And.intro ?_ trivial; conv => whnf) | ((with_reducible refine bk_true ?_); conv => whnf) | ((with_reducible refine bk_false ?_); conv => whnf) | (refine ex_get rfl ?_; conv => whnf) | (refine ex_cs rfl rfl ?_; conv => whnf) | ((with_reducible refine bk_nt ?_); conv => whnf) | ((with_reducible refine bk_nf ?_); conv => whnf))))
    exact ret_pf rfl rfl rfl

theorem RxMay_fn (A B : Tr) (hA : A.Fit) (hB : B.Fit) (nA : A.nodes < 2 ^ 40) (nB : B.nodes < 2 ^ 40) : PF Try.prog 14 [A.pv, B.pv] (.b true) := by
  have gA := great_fn A hA
  have gB := great_fn B hB
  have dA := deep_le A
  have m1 := rxMay_fn A hA (by omega)
  have m2 := refMay_fn A hA (by omega)
  have n1 := rxNodes_fn A hA (by omega)
  have n2 := refNodes_fn A hA
  have d1 := rxDeep_fn A hA (by omega)
  have d2 := refDeep_fn A hA (by omega)
  have s1 := rxSame_fn A B hA hB
  have s2 := refSame_fn A B hA hB
  have s3 := rxSame_fn A A hA hA
  rw [same_refl] at s3
  generalize A.great = ga at gA
  generalize B.great = gb at gB
  generalize A.may = ma at m1 m2
  generalize IntKind.i64.wrap (A.nodes : Int) = na at n1 n2
  generalize ((A.deep : Nat) : Int) = da at d1 d2
  generalize A.same B = sab at s1 s2
  obtain ⟨k, s, sub, lo, hi⟩ := A
  obtain ⟨k', s', sub', lo', hi'⟩ := B
  refine pf_intro rf14_eq rmixed rfl ?_
  ((conv => whnf) <;> (repeat (first | (refine And.intro (by first | omega | exact rfl | exact trivial | exact Nat.le_of_ble_eq_true rfl | (simp only [List.length_cons, List.length_nil]; omega)) ?_; conv => whnf) | (refine And.intro ?_ trivial; conv => whnf) | ((with_reducible refine bk_true ?_); conv => whnf) | ((with_reducible refine bk_false ?_); conv => whnf) | (refine ex_get rfl ?_; conv => whnf) | (refine ex_cs rfl rfl ?_; conv => whnf) | ((with_reducible refine bk_nt ?_); conv => whnf) | ((with_reducible refine bk_nf ?_); conv => whnf))))
  refine vcall_pf alive4_fn rfl rfl ?_
  ((conv => whnf) <;> (repeat (first | (refine And.intro (by first | omega | exact rfl | exact trivial | exact Nat.le_of_ble_eq_true rfl | (simp only [List.length_cons, List.length_nil]; omega)) ?_; conv => whnf) | (refine And.intro ?_ trivial; conv => whnf) | ((with_reducible refine bk_true ?_); conv => whnf) | ((with_reducible refine bk_false ?_); conv => whnf) | (refine ex_get rfl ?_; conv => whnf) | (refine ex_cs rfl rfl ?_; conv => whnf) | ((with_reducible refine bk_nt ?_); conv => whnf) | ((with_reducible refine bk_nf ?_); conv => whnf))))
  refine vcall_pf gA rfl rfl ?_
  cases ga with
  | true =>
    ((conv => whnf) <;> (repeat (first | (refine And.intro (by first | omega | exact rfl | exact trivial | exact Nat.le_of_ble_eq_true rfl | (simp only [List.length_cons, List.length_nil]; omega)) ?_; conv => whnf) | (refine And.intro ?_ trivial; conv => whnf) | ((with_reducible refine bk_true ?_); conv => whnf) | ((with_reducible refine bk_false ?_); conv => whnf) | (refine ex_get rfl ?_; conv => whnf) | (refine ex_cs rfl rfl ?_; conv => whnf) | ((with_reducible refine bk_nt ?_); conv => whnf) | ((with_reducible refine bk_nf ?_); conv => whnf))))
    exact ret_pf rfl rfl rfl
  | false =>
  ((conv => whnf) <;> (repeat (first | (refine And.intro (by first | omega | exact rfl | exact trivial | exact Nat.le_of_ble_eq_true rfl | (simp only [List.length_cons, List.length_nil]; omega)) ?_; conv => whnf) | (refine And.intro ?_ trivial; conv => whnf) | ((with_reducible refine bk_true ?_); conv => whnf) | ((with_reducible refine bk_false ?_); conv => whnf) | (refine ex_get rfl ?_; conv => whnf) | (refine ex_cs rfl rfl ?_; conv => whnf) | ((with_reducible refine bk_nt ?_); conv => whnf) | ((with_reducible refine bk_nf ?_); conv => whnf))))
  refine vcall_pf gB rfl rfl ?_
  cases gb with
  | true =>
    ((conv => whnf) <;> (repeat (first | (refine And.intro (by first | omega | exact rfl | exact trivial | exact Nat.le_of_ble_eq_true rfl | (simp only [List.length_cons, List.length_nil]; omega)) ?_; conv => whnf) | (refine And.intro ?_ trivial; conv => whnf) | ((with_reducible refine bk_true ?_); conv => whnf) | ((with_reducible refine bk_false ?_); conv => whnf) | (refine ex_get rfl ?_; conv => whnf) | (refine ex_cs rfl rfl ?_; conv => whnf) | ((with_reducible refine bk_nt ?_); conv => whnf) | ((with_reducible refine bk_nf ?_); conv => whnf))))
    exact ret_pf rfl rfl rfl
  | false =>
  ((conv => whnf) <;> (repeat (first | (refine And.intro (by first | omega | exact rfl | exact trivial | exact Nat.le_of_ble_eq_true rfl | (simp only [List.length_cons, List.length_nil]; omega)) ?_; conv => whnf) | (refine And.intro ?_ trivial; conv => whnf) | ((with_reducible refine bk_true ?_); conv => whnf) | ((with_reducible refine bk_false ?_); conv => whnf) | (refine ex_get rfl ?_; conv => whnf) | (refine ex_cs rfl rfl ?_; conv => whnf) | ((with_reducible refine bk_nt ?_); conv => whnf) | ((with_reducible refine bk_nf ?_); conv => whnf))))
  refine vcall_pf m1 rfl rfl ?_
  ((conv => whnf) <;> (repeat (first | (refine And.intro (by first | omega | exact rfl | exact trivial | exact Nat.le_of_ble_eq_true rfl | (simp only [List.length_cons, List.length_nil]; omega)) ?_; conv => whnf) | (refine And.intro ?_ trivial; conv => whnf) | ((with_reducible refine bk_true ?_); conv => whnf) | ((with_reducible refine bk_false ?_); conv => whnf) | (refine ex_get rfl ?_; conv => whnf) | (refine ex_cs rfl rfl ?_; conv => whnf) | ((with_reducible refine bk_nt ?_); conv => whnf) | ((with_reducible refine bk_nf ?_); conv => whnf))))
  refine vcall_pf m2 rfl rfl ?_
  ((conv => whnf) <;> (repeat (first | (refine And.intro (by first | omega | exact rfl | exact trivial | exact Nat.le_of_ble_eq_true rfl | (simp only [List.length_cons, List.length_nil]; omega)) ?_; conv => whnf) | (refine And.intro ?_ trivial; conv => whnf) | ((with_reducible refine bk_true ?_); conv => whnf) | ((with_reducible refine bk_false ?_); conv => whnf) | (refine ex_get rfl ?_; conv => whnf) | (refine ex_cs rfl rfl ?_; conv => whnf) | ((with_reducible refine bk_nt ?_); conv => whnf) | ((with_reducible refine bk_nf ?_); conv => whnf))))
  refine bk_is (c := true) (by cases ma <;> rfl) ?_
  ((conv => whnf) <;> (repeat (first | (refine And.intro (by first | omega | exact rfl | exact trivial | exact Nat.le_of_ble_eq_true rfl | (simp only [List.length_cons, List.length_nil]; omega)) ?_; conv => whnf) | (refine And.intro ?_ trivial; conv => whnf) | ((with_reducible refine bk_true ?_); conv => whnf) | ((with_reducible refine bk_false ?_); conv => whnf) | (refine ex_get rfl ?_; conv => whnf) | (refine ex_cs rfl rfl ?_; conv => whnf) | ((with_reducible refine bk_nt ?_); conv => whnf) | ((with_reducible refine bk_nf ?_); conv => whnf))))
  refine vcall_pf n1 rfl rfl ?_
  ((conv => whnf) <;> (repeat (first | (refine And.intro (by first | omega | exact rfl | exact trivial | exact Nat.le_of_ble_eq_true rfl | (simp only [List.length_cons, List.length_nil]; omega)) ?_; conv => whnf) | (refine And.intro ?_ trivial; conv => whnf) | ((with_reducible refine bk_true ?_); conv => whnf) | ((with_reducible refine bk_false ?_); conv => whnf) | (refine ex_get rfl ?_; conv => whnf) | (refine ex_cs rfl rfl ?_; conv => whnf) | ((with_reducible refine bk_nt ?_); conv => whnf) | ((with_reducible refine bk_nf ?_); conv => whnf))))
  refine vcall_pf n2 rfl rfl ?_
  ((conv => whnf) <;> (repeat (first | (refine And.intro (by first | omega | exact rfl | exact trivial | exact Nat.le_of_ble_eq_true rfl | (simp only [List.length_cons, List.length_nil]; omega)) ?_; conv => whnf) | (refine And.intro ?_ trivial; conv => whnf) | ((with_reducible refine bk_true ?_); conv => whnf) | ((with_reducible refine bk_false ?_); conv => whnf) | (refine ex_get rfl ?_; conv => whnf) | (refine ex_cs rfl rfl ?_; conv => whnf) | ((with_reducible refine bk_nt ?_); conv => whnf) | ((with_reducible refine bk_nf ?_); conv => whnf))))
  refine bk_is (eqlT rfl) ?_
  ((conv => whnf) <;> (repeat (first | (refine And.intro (by first | omega | exact rfl | exact trivial | exact Nat.le_of_ble_eq_true rfl | (simp only [List.length_cons, List.length_nil]; omega)) ?_; conv => whnf) | (refine And.intro ?_ trivial; conv => whnf) | ((with_reducible refine bk_true ?_); conv => whnf) | ((with_reducible refine bk_false ?_); conv => whnf) | (refine ex_get rfl ?_; conv => whnf) | (refine ex_cs rfl rfl ?_; conv => whnf) | ((with_reducible refine bk_nt ?_); conv => whnf) | ((with_reducible refine bk_nf ?_); conv => whnf))))
  refine vcall_pf d1 rfl rfl ?_
  ((conv => whnf) <;> (repeat (first | (refine And.intro (by first | omega | exact rfl | exact trivial | exact Nat.le_of_ble_eq_true rfl | (simp only [List.length_cons, List.length_nil]; omega)) ?_; conv => whnf) | (refine And.intro ?_ trivial; conv => whnf) | ((with_reducible refine bk_true ?_); conv => whnf) | ((with_reducible refine bk_false ?_); conv => whnf) | (refine ex_get rfl ?_; conv => whnf) | (refine ex_cs rfl rfl ?_; conv => whnf) | ((with_reducible refine bk_nt ?_); conv => whnf) | ((with_reducible refine bk_nf ?_); conv => whnf))))
  refine vcall_pf d2 rfl rfl ?_
  ((conv => whnf) <;> (repeat (first | (refine And.intro (by first | omega | exact rfl | exact trivial | exact Nat.le_of_ble_eq_true rfl | (simp only [List.length_cons, List.length_nil]; omega)) ?_; conv => whnf) | (refine And.intro ?_ trivial; conv => whnf) | ((with_reducible refine bk_true ?_); conv => whnf) | ((with_reducible refine bk_false ?_); conv => whnf) | (refine ex_get rfl ?_; conv => whnf) | (refine ex_cs rfl rfl ?_; conv => whnf) | ((with_reducible refine bk_nt ?_); conv => whnf) | ((with_reducible refine bk_nf ?_); conv => whnf))))
  refine bk_is (eqlT rfl) ?_
  ((conv => whnf) <;> (repeat (first | (refine And.intro (by first | omega | exact rfl | exact trivial | exact Nat.le_of_ble_eq_true rfl | (simp only [List.length_cons, List.length_nil]; omega)) ?_; conv => whnf) | (refine And.intro ?_ trivial; conv => whnf) | ((with_reducible refine bk_true ?_); conv => whnf) | ((with_reducible refine bk_false ?_); conv => whnf) | (refine ex_get rfl ?_; conv => whnf) | (refine ex_cs rfl rfl ?_; conv => whnf) | ((with_reducible refine bk_nt ?_); conv => whnf) | ((with_reducible refine bk_nf ?_); conv => whnf))))
  refine vcall_pf s1 rfl rfl ?_
  ((conv => whnf) <;> (repeat (first | (refine And.intro (by first | omega | exact rfl | exact trivial | exact Nat.le_of_ble_eq_true rfl | (simp only [List.length_cons, List.length_nil]; omega)) ?_; conv => whnf) | (refine And.intro ?_ trivial; conv => whnf) | ((with_reducible refine bk_true ?_); conv => whnf) | ((with_reducible refine bk_false ?_); conv => whnf) | (refine ex_get rfl ?_; conv => whnf) | (refine ex_cs rfl rfl ?_; conv => whnf) | ((with_reducible refine bk_nt ?_); conv => whnf) | ((with_reducible refine bk_nf ?_); conv => whnf))))
  refine vcall_pf s2 rfl rfl ?_
  ((conv => whnf) <;> (repeat (first | (refine And.intro (by first | omega | exact rfl | exact trivial | exact Nat.le_of_ble_eq_true rfl | (simp only [List.length_cons, List.length_nil]; omega)) ?_; conv => whnf) | (refine And.intro ?_ trivial; conv => whnf) | ((with_reducible refine bk_true ?_); conv => whnf) | ((with_reducible refine bk_false ?_); conv => whnf) | (refine ex_get rfl ?_; conv => whnf) | (refine ex_cs rfl rfl ?_; conv => whnf) | ((with_reducible refine bk_nt ?_); conv => whnf) | ((with_reducible refine bk_nf ?_); conv => whnf))))
  refine bk_is (c := true) (by cases sab <;> rfl) ?_
  ((conv => whnf) <;> (repeat (first | (refine And.intro (by first | omega | exact rfl | exact trivial | exact Nat.le_of_ble_eq_true rfl | (simp only [List.length_cons, List.length_nil]; omega)) ?_; conv => whnf) | (refine And.intro ?_ trivial; conv => whnf) | ((with_reducible refine bk_true ?_); conv => whnf) | ((with_reducible refine bk_false ?_); conv => whnf) | (refine ex_get rfl ?_; conv => whnf) | (refine ex_cs rfl rfl ?_; conv => whnf) | ((with_reducible refine bk_nt ?_); conv => whnf) | ((with_reducible refine bk_nf ?_); conv => whnf))))
  refine vcall_pf s3 rfl rfl ?_
  ((conv => whnf) <;> (repeat (first | (refine And.intro (by first | omega | exact rfl | exact trivial | exact Nat.le_of_ble_eq_true rfl | (simp only [List.length_cons, List.length_nil]; omega)) ?_; conv => whnf) | (refine And.intro ?_ trivial; conv => whnf) | ((with_reducible refine bk_true ?_); conv => whnf) | ((with_reducible refine bk_false ?_); conv => whnf) | (refine ex_get rfl ?_; conv => whnf) | (refine ex_cs rfl rfl ?_; conv => whnf) | ((with_reducible refine bk_nt ?_); conv => whnf) | ((with_reducible refine bk_nf ?_); conv => whnf))))
  exact ret_pf rfl rfl rfl

end Hk
