/- Hk: laws for whoever walks: calls, ends, numbers. -/
import Derived.Test.YtmgkffdnnjpmpaaHkFun
namespace Hk
open Go
set_option linter.unusedVariables false

theorem KLe.pe {h : List Blk} {fz kp : Nat → Bool} {x y : PV} (e : x = y) : KLe h fz kp (.p x) (.p y) := e ▸ .p (.refl _)

theorem BLe.pe {h : List Blk} {fz kp : Nat → Bool} {wd : Nat} {x y : List (List PV)} (e : x = y) : BLe h fz kp (.pr wd x) (.pr wd y) := e ▸ .pr (.refl _)

theorem KLeL.ps {h : List Blk} {fz kp : Nat → Bool} : ∀ l : List PV, KLeL h fz kp (l.map .p) (l.map .p)
  | [] => .nil
  | x :: r => .cons (.p (.refl x)) (KLeL.ps r)

theorem allP_ps {l : List AV} {ps : List PV} (h : allP l = some ps) : l = ps.map .p := allP_eq h

theorem renL_ps (ids : List Nat) (n : Nat) : ∀ l : List PV, AV.renL ids n (l.map .p) = l.map .p
  | [] => rfl
  | x :: r => by simp [AV.renL, AV.ren, renL_ps ids n r]

/-- What a call of function f with pure arguments yields: one value, that leads to no memory of the call's own. -/
def PF (P : Program) (f : Nat) (args : List PV) (r : PV) : Prop := Fn P f (args.map .p) [] [] (fun x H => x = .p r ∧ H = [])

theorem vcall_pf {P : Program} {fx : Nat → Bool} {kk : Nat} {q : Bool} {f : Nat} {args : List AV} {ps : List PV} {r : PV} {d : Option Nat} {st : St} {k : St → Prop}
    (h : PF P f ps r) {ps' : List PV} (hp : allP args = some ps') (he : ps' = ps) (hk : k (st.put d (.p r))) : vcall ⟨Fn P, fx, kk⟩ q f args d st k := by
  subst he
  have ha := allP_ps hp
  subst ha
  refine .mk ?_
  unfold vcall0
  refine ⟨[], [], ps'.map .p, [], _, [], false, h, ⟨by cases q <;> rfl, rfl, rfl, rfl, rfl, rfl, rfl, rfl, rfl, rfl⟩, rfl, ?_, ?_⟩
  · rw [renL_ps]; exact KLeL.ps _
  · rintro r' H' ⟨rfl, rfl⟩ _
    refine ⟨fun h => (by cases h), ?_⟩
    simpa [dropAll, killAll, nthIds, backH, renH, AV.ren] using hk

/-- The same, of a value that leads to no memory at all, with own slices among the arguments. -/
theorem vcall_flat {P : Program} {fx : Nat → Bool} {kk : Nat} {q : Bool} {f : Nat} {args : List AV} {ps : List PV} {r : PV} {d : Option Nat} {st : St} {k : St → Prop}
    (h : PF P f ps r) (hf : flatP r = true) (hp : KLeL st.heap (fun _ => true) (memN []) args (ps.map .p)) (hk : k (st.put d (.p r))) : vcall ⟨Fn P, fx, kk⟩ q f args d st k := by
  refine .mk ?_
  unfold vcall0
  refine ⟨[], [], ps.map .p, [], _, [], true, h, ⟨by cases q <;> rfl, rfl, rfl, rfl, rfl, rfl, rfl, rfl, rfl, rfl⟩, rfl, ?_, ?_⟩
  · rw [renL_ps]; exact hp
  · rintro r' H' ⟨rfl, rfl⟩ _
    refine ⟨fun _ => ⟨hf, rfl⟩, ?_⟩
    simpa [dropAll, killAll, nthIds, backH, renH, AV.ren] using hk

theorem setNth_same {α : Type} (d : α) : ∀ (l : List α) (n : Nat), setNth l n (nth d l n) = l
  | [], _ => rfl
  | _ :: _, 0 => rfl
  | x :: r, n + 1 => by simp [setNth, nth, setNth_same d r n]

theorem backH_same (h : List Blk) : ∀ ids : List Nat, backH h ids (getIds h ids) = h
  | [] => by simp [backH, getIds]
  | i :: r => by simp [backH, getIds, setNth_same, backH_same h r]

/-- What a call yields that reads blocks of its caller's: one value, that leads to none of them; the blocks stay. -/
def RF (P : Program) (f : Nat) (args : List AV) (H : List Blk) (r : PV) : Prop := Fn P f args H [] (fun x H' => x = .p r ∧ H' = H)

theorem vcall_rd {P : Program} {fx : Nat → Bool} {kk : Nat} {f : Nat} {args args' : List AV} {H : List Blk} {r : PV} {d : Option Nat} {st : St} {k : St → Prop} (ids : List Nat)
    (h : RF P f args' H r) (hb : (Nat.beq ids.length H.length && (distinctN ids && (disjN ids [] && liveIds st.heap ids))) = true) (hH : renH ids st.heap.length H = getIds st.heap ids)
    (hK : KLeL st.heap (fun b => false || memN [] b) (memN ids) args (AV.renL ids st.heap.length args')) (hk : k (st.put d (.p r))) : vcall ⟨Fn P, fx, kk⟩ false f args d st k := by
  simp only [Bool.and_eq_true] at hb
  refine .mk ?_
  unfold vcall0
  refine ⟨ids, H, args', [], _, [], false, h, ⟨rfl, rfl, rfl, rfl, rfl, rfl, Nat.eq_of_beq_eq_true hb.1, hb.2.1, hb.2.2.1, hb.2.2.2⟩, hH, hK, ?_⟩
  rintro r' H' ⟨rfl, rfl⟩ _
  refine ⟨fun h => (by cases h), ?_⟩
  simpa [dropAll, killAll, nthIds, AV.ren, hH, backH_same] using hk

theorem bk_nt {k : Bool → Prop} (h : k false) : bk (!true) k := bk_false h
theorem bk_nf {k : Bool → Prop} (h : k true) : bk (!false) k := bk_true h

theorem bk_is {k : Bool → Prop} {b c : Bool} (e : b = c) (h : k c) : bk b k := ⟨e ▸ h⟩
theorem neqF {a b : Int} (h : a = b) : intCm .neq a b = false := by subst h; simp [intCm]
theorem neqT {a b : Int} (h : a ≠ b) : intCm .neq a b = true := by simp [intCm, h]
theorem eqlT {a b : Int} (h : a = b) : intCm .eql a b = true := by subst h; simp [intCm]
theorem eqlF {a b : Int} (h : a ≠ b) : intCm .eql a b = false := by simp [intCm, h]
theorem lssT {a b : Int} (h : a < b) : intCm .lss a b = true := by simp [intCm, h]
theorem lssF {a b : Int} (h : b ≤ a) : intCm .lss a b = false := by simp [intCm, h]
theorem leqT {a b : Int} (h : a ≤ b) : intCm .leq a b = true := by simp [intCm, h]
theorem leqF {a b : Int} (h : b < a) : intCm .leq a b = false := by simp [intCm, h]
theorem gtrT {a b : Int} (h : b < a) : intCm .gtr a b = true := by simp [intCm, h]
theorem gtrF {a b : Int} (h : a ≤ b) : intCm .gtr a b = false := by simp [intCm, h]
theorem geqT {a b : Int} (h : b ≤ a) : intCm .geq a b = true := by simp [intCm, h]
theorem geqF {a b : Int} (h : a < b) : intCm .geq a b = false := by simp [intCm, h]

theorem bk_eql {k : Bool → Prop} {a b : Int} (h1 : a = b → k true) (h2 : a ≠ b → k false) : bk (intCm .eql a b) k :=
  bk_split (fun h => h1 (by simpa [intCm] using h)) (fun h => h2 (by simpa [intCm] using h))
theorem bk_neq {k : Bool → Prop} {a b : Int} (h1 : a ≠ b → k true) (h2 : a = b → k false) : bk (intCm .neq a b) k :=
  bk_split (fun h => h1 (by simpa [intCm] using h)) (fun h => h2 (by simpa [intCm] using h))
theorem bk_lss {k : Bool → Prop} {a b : Int} (h1 : a < b → k true) (h2 : b ≤ a → k false) : bk (intCm .lss a b) k :=
  bk_split (fun h => h1 (by simpa [intCm] using h)) (fun h => h2 (by simpa [intCm] using h))
theorem bk_leq {k : Bool → Prop} {a b : Int} (h1 : a ≤ b → k true) (h2 : b < a → k false) : bk (intCm .leq a b) k :=
  bk_split (fun h => h1 (by simpa [intCm] using h)) (fun h => h2 (by simpa [intCm] using h))
theorem bk_gtr {k : Bool → Prop} {a b : Int} (h1 : b < a → k true) (h2 : a ≤ b → k false) : bk (intCm .gtr a b) k :=
  bk_split (fun h => h1 (by simpa [intCm] using h)) (fun h => h2 (by simpa [intCm] using h))
theorem bk_geq {k : Bool → Prop} {a b : Int} (h1 : b ≤ a → k true) (h2 : a < b → k false) : bk (intCm .geq a b) k :=
  bk_split (fun h => h1 (by simpa [intCm] using h)) (fun h => h2 (by simpa [intCm] using h))

theorem ex_get {α : Type} {l : List α} {i : Nat} {x : α} {k : α → Prop} (h : l[i]? = some x) (hk : k x) : ∃ x, l[i]? = some x ∧ k x := ⟨x, h, hk⟩

theorem ex_cs {α : Type} {X cs : List α} {n : Nat} {k : List α → Prop} (h : X = cs) (hl : cs.length = n) (hk : k cs) : ∃ cs, X = cs ∧ cs.length = n ∧ k cs := ⟨cs, h, hl, hk⟩

/-- A call of pure arguments, whose result may bear new blocks. -/
theorem vcall_new {P : Program} {fx : Nat → Bool} {kk : Nat} {q : Bool} {f : Nat} {args : List AV} {ps : List PV} {Post : AV → List Blk → Prop} {d : Option Nat} {st : St} {k : St → Prop}
    (h : Fn P f (ps.map .p) [] [] Post) {ps' : List PV} (hp : allP args = some ps') (he : ps' = ps)
    (hk : ∀ r H', Post r H' → k ((⟨st.tmps, st.heap ++ renH [] st.heap.length H'⟩ : St).put d (AV.ren [] st.heap.length r))) : vcall ⟨Fn P, fx, kk⟩ q f args d st k := by
  subst he
  have ha := allP_ps hp
  subst ha
  refine .mk ?_
  unfold vcall0
  refine ⟨[], [], ps'.map .p, [], _, [], false, h, ⟨by cases q <;> rfl, rfl, rfl, rfl, rfl, rfl, rfl, rfl, rfl, rfl⟩, rfl, ?_, ?_⟩
  · rw [renL_ps]; exact KLeL.ps _
  · intro r' H' hP _
    refine ⟨fun h => (by cases h), ?_⟩
    have := hk r' H' hP
    simpa [dropAll, killAll, nthIds, backH] using this

/-- A call that is handed own blocks, which it may turn. -/
theorem vcall_own {P : Program} {fx : Nat → Bool} {kk : Nat} {f : Nat} {args args' : List AV} {H : List Blk} {Post : AV → List Blk → Prop} {d : Option Nat} {st : St} {k : St → Prop} (ids : List Nat)
    (h : Fn P f args' H [] Post) (hb : (Nat.beq ids.length H.length && (distinctN ids && (disjN ids [] && liveIds st.heap ids))) = true) (hH : renH ids st.heap.length H = getIds st.heap ids)
    (hK : KLeL st.heap (fun b => false || memN [] b) (memN ids) args (AV.renL ids st.heap.length args'))
    (hk : ∀ r H', Post r H' → k ((⟨st.tmps, backH st.heap ids (renH ids st.heap.length H')⟩ : St).put d (AV.ren ids st.heap.length r))) : vcall ⟨Fn P, fx, kk⟩ false f args d st k := by
  simp only [Bool.and_eq_true] at hb
  refine .mk ?_
  unfold vcall0
  refine ⟨ids, H, args', [], _, [], false, h, ⟨rfl, rfl, rfl, rfl, rfl, rfl, Nat.eq_of_beq_eq_true hb.1, hb.2.1, hb.2.2.1, hb.2.2.2⟩, hH, hK, ?_⟩
  intro r' H' hP _
  refine ⟨fun h => (by cases h), ?_⟩
  have := hk r' H' hP
  simpa [dropAll, killAll, nthIds] using this

/-- A call of pure arguments, some of which were own slices till now: these blocks are given up. -/
theorem vcall_frz {P : Program} {fx : Nat → Bool} {kk : Nat} {q : Bool} {f : Nat} {args : List AV} {ps : List PV} {r : PV} {d : Option Nat} {st : St} {k : St → Prop} (fr : List Nat)
    (h : PF P f ps r) (hb : (allFree fx fr && boundedN st.heap.length fr && disjN [] fr) = true) (hp : KLeL st.heap (fun b => false || memN fr b) (memN []) args (ps.map .p))
    (hk : k ((dropAll fr st).put d (.p r))) : vcall ⟨Fn P, fx, kk⟩ q f args d st k := by
  simp only [Bool.and_eq_true] at hb
  refine .mk ?_
  unfold vcall0
  refine ⟨[], [], ps.map .p, [], _, fr, false, h, ⟨by cases q <;> rfl, rfl, rfl, hb.1.1, rfl, hb.1.2, rfl, rfl, hb.2, rfl⟩, rfl, ?_, ?_⟩
  · rw [renL_ps]; exact hp
  · rintro r' H' ⟨rfl, rfl⟩ _
    refine ⟨fun h => (by cases h), ?_⟩
    simpa [killAll, nthIds, backH, renH, AV.ren] using hk

/-- A call of pure arguments that serve as those of the contract. -/
theorem vcall_flat0 {P : Program} {fx : Nat → Bool} {kk : Nat} {q : Bool} {f : Nat} {args : List AV} {ps : List PV} {r : PV} {d : Option Nat} {st : St} {k : St → Prop}
    (h : PF P f ps r) (hp : KLeL st.heap (fun b => false || memN [] b) (memN []) args (ps.map .p)) (hk : k (st.put d (.p r))) : vcall ⟨Fn P, fx, kk⟩ q f args d st k :=
  vcall_frz [] h rfl hp hk

/-- A pure function's contract from its code. -/
theorem pf_intro {P : Program} {f : Nat} {L : List (List Nat)} {rf : RFn} (hcomp : cfnAt P f L = some rf) (hm : P.follows .mixedOrders = true) {args : List PV} {r : PV}
    (hn : Nat.ble args.length rf.nt = true) (h : awp ⟨Fn P, fun _ => false, 0⟩ rf.body (retK ⟨Fn P, fun _ => false, 0⟩ rf.res (fun x H => x = .p r ∧ H = [])) ⟨params 0 (args.map .p), []⟩) : PF P f args r := by
  have e : fxOf 0 [] = fun _ => false := by funext b; simp [fxOf]
  refine fn_intro hcomp hm (F := Fn P) (fun _ _ _ _ _ h => h) (by simpa using hn) ?_
  simp only [List.length_nil, e]
  exact h

theorem ret_pf {E : En} {h : List Blk} {xs : List AV} {r : PV} {x : PV} (hk : E.k = 0) (hx : resV xs = .p x) (e : x = r) :
    ∃ r' H', (r' = .p r ∧ H' = []) ∧ (Nat.ble E.k (List.length H') = true ∧ fixOk E.fx H' E.k = true) ∧
      KLe h (fun b => !liveB H' b) (fun b => liveB H' b) (resV xs) r' ∧ HLe h (fun b => !liveB H' b) (fun b => liveB H' b) h H' := by
  subst e
  exact ⟨_, _, ⟨rfl, rfl⟩, by rw [hk]; exact ⟨rfl, rfl⟩, by rw [hx]; exact .p (.refl _), .nil _⟩

/-! ### Numbers -/

abbrev u32 (w : BitVec 32) : PV := .int .u32 (w.toNat : Int)
abbrev u8 (w : BitVec 8) : PV := .int .u8 (w.toNat : Int)
abbrev u64 (w : BitVec 64) : PV := .int .u64 (w.toNat : Int)
abbrev i64 (n : Int) : PV := .int .i64 n

theorem wrap_u (k : IntKind) (n : Int) (hs : k.signed = false) : k.wrap n = n % 2 ^ k.bits := by
  unfold IntKind.wrap
  simp [hs]

theorem wrap_u32 (n : Int) : IntKind.u32.wrap n = n % 4294967296 := wrap_u .u32 n rfl
theorem wrap_u8 (n : Int) : IntKind.u8.wrap n = n % 256 := wrap_u .u8 n rfl
theorem wrap_u64 (n : Int) : IntKind.u64.wrap n = n % 18446744073709551616 := wrap_u .u64 n rfl

theorem wrap_i64 {n : Int} (h0 : -9223372036854775808 ≤ n) (h1 : n < 9223372036854775808) : IntKind.i64.wrap n = n := by
  unfold IntKind.wrap IntKind.signed IntKind.bits
  simp
  omega

theorem add64 {a b : Int} (h0 : -9223372036854775808 ≤ a + b) (h1 : a + b < 9223372036854775808) : intAr .add .i64 a b = a + b := wrap_i64 h0 h1
theorem sub64 {a b : Int} (h0 : -9223372036854775808 ≤ a - b) (h1 : a - b < 9223372036854775808) : intAr .sub .i64 a b = a - b := wrap_i64 h0 h1
theorem mul64 {a b : Int} (h0 : -9223372036854775808 ≤ a * b) (h1 : a * b < 9223372036854775808) : intAr .mul .i64 a b = a * b := wrap_i64 h0 h1

section
variable (a b : BitVec 32)
theorem ofInt32 : BitVec.ofInt 32 (a.toNat : Int) = a := by simp
theorem u32_xor : intAr .xor .u32 (a.toNat : Int) (b.toNat : Int) = ((a ^^^ b).toNat : Int) := by
  show IntKind.u32.wrap ((BitVec.ofInt 32 _ ^^^ BitVec.ofInt 32 _).toNat : Int) = _
  rw [ofInt32, ofInt32, wrap_u32]
  have := (a ^^^ b).isLt
  omega
theorem u32_and : intAr .and .u32 (a.toNat : Int) (b.toNat : Int) = ((a &&& b).toNat : Int) := by
  show IntKind.u32.wrap ((BitVec.ofInt 32 _ &&& BitVec.ofInt 32 _).toNat : Int) = _
  rw [ofInt32, ofInt32, wrap_u32]
  have := (a &&& b).isLt
  omega
theorem u32_or : intAr .or .u32 (a.toNat : Int) (b.toNat : Int) = ((a ||| b).toNat : Int) := by
  show IntKind.u32.wrap ((BitVec.ofInt 32 _ ||| BitVec.ofInt 32 _).toNat : Int) = _
  rw [ofInt32, ofInt32, wrap_u32]
  have := (a ||| b).isLt
  omega
theorem u32_sub : intAr .sub .u32 (a.toNat : Int) (b.toNat : Int) = ((a - b).toNat : Int) := by
  show IntKind.u32.wrap ((a.toNat : Int) - (b.toNat : Int)) = _
  rw [wrap_u32, BitVec.toNat_sub]
  have := a.isLt
  have := b.isLt
  omega
theorem u32_neg : intAr .sub .u32 0 (a.toNat : Int) = ((-a).toNat : Int) := by
  show IntKind.u32.wrap (0 - (a.toNat : Int)) = _
  rw [wrap_u32, BitVec.toNat_neg]
  have := a.isLt
  omega
theorem u32_not : intAr .xor .u32 (if IntKind.u32.signed = true then -1 else IntKind.u32.max) (a.toNat : Int) = ((~~~a).toNat : Int) := by
  have e : (if IntKind.u32.signed = true then -1 else IntKind.u32.max) = ((4294967295#32).toNat : Int) := by decide
  rw [e, u32_xor]
  congr 1
theorem u32_shr (n : Int) (hn : n.toNat ≤ 32) : intAr .shr .u32 (a.toNat : Int) n = ((a >>> n.toNat).toNat : Int) := by
  show (a.toNat : Int).fdiv (2 ^ (min (n.toNat) 32)) = _
  rw [Nat.min_eq_left hn, BitVec.toNat_ushiftRight, Nat.shiftRight_eq_div_pow, Int.fdiv_eq_ediv_of_nonneg _ (Int.le_of_lt (Int.pow_pos (by decide)))]
  norm_cast
theorem u32_shl (n : Int) (hn : n.toNat ≤ 32) : intAr .shl .u32 (a.toNat : Int) n = ((a <<< n.toNat).toNat : Int) := by
  show IntKind.u32.wrap ((a.toNat : Int) * 2 ^ (min (n.toNat) 32)) = _
  rw [Nat.min_eq_left hn, wrap_u32, BitVec.toNat_shiftLeft, Nat.shiftLeft_eq]
  simp
end

theorem u8_conv32 (w : BitVec 32) : IntKind.u8.wrap (w.toNat : Int) = ((w.setWidth 8).toNat : Int) := by
  rw [wrap_u8, BitVec.toNat_setWidth]; omega
theorem u32_conv8 (w : BitVec 8) : IntKind.u32.wrap (w.toNat : Int) = ((w.setWidth 32).toNat : Int) := by
  rw [wrap_u32, BitVec.toNat_setWidth]
  have := w.isLt
  omega
theorem u32_ofNat (n : Nat) : IntKind.u32.wrap (n : Int) = ((BitVec.ofNat 32 n).toNat : Int) := by
  rw [wrap_u32, BitVec.toNat_ofNat]; omega
theorem u8_xor (a b : BitVec 8) : intAr .xor .u8 (a.toNat : Int) (b.toNat : Int) = ((a ^^^ b).toNat : Int) := by
  show IntKind.u8.wrap ((BitVec.ofInt 8 _ ^^^ BitVec.ofInt 8 _).toNat : Int) = _
  have e : ∀ c : BitVec 8, BitVec.ofInt 8 (c.toNat : Int) = c := fun c => by simp
  rw [e, e, wrap_u8]
  have := (a ^^^ b).isLt
  omega

theorem and1_64 {n : Int} (h0 : 0 ≤ n) (h1 : n < 9223372036854775808) : intAr .and .i64 n 1 = n % 2 := by
  show IntKind.i64.wrap ((BitVec.ofInt 64 n &&& BitVec.ofInt 64 1).toNat : Int) = _
  rw [BitVec.toNat_and]
  have e1 : (BitVec.ofInt 64 n).toNat = n.toNat := by rw [BitVec.toNat_ofInt]; omega
  have e2 : (BitVec.ofInt 64 1).toNat = 1 := rfl
  rw [e1, e2, Nat.and_one_is_mod, wrap_i64 (by omega) (by omega)]
  omega
theorem shr1_64 {n : Int} : intAr .shr .i64 n 1 = n / 2 := by
  show n.fdiv (2 ^ (min (Int.toNat 1) 64)) = _
  exact Int.fdiv_eq_ediv_of_nonneg _ (by decide)

/-! ### Tables -/

/-- The first k of n places from f, the others z. -/
def upto {α : Type} (n k : Nat) (f : Nat → α) (z : α) : List α := (List.range n).map fun j => if j < k then f j else z

theorem upto_len {α : Type} (n k : Nat) (f : Nat → α) (z : α) : (upto n k f z).length = n := by simp [upto]
theorem upto_get {α : Type} {n k : Nat} {f : Nat → α} {z : α} {j : Nat} (h : j < n) : (upto n k f z)[j]? = some (if j < k then f j else z) := by
  simp [upto, h]
theorem upto_zero {α : Type} (n : Nat) (f : Nat → α) (z : α) : upto n 0 f z = List.replicate n z := by
  apply List.ext_getElem?
  intro i
  by_cases h : i < n
  · rw [upto_get h]; simp [h]
  · rw [List.getElem?_eq_none (by rw [upto_len]; omega), List.getElem?_eq_none (by simp; omega)]
theorem upto_full {α : Type} (n : Nat) (f : Nat → α) (z : α) : upto n n f z = (List.range n).map f := by
  apply List.map_congr_left
  intro j hj
  simp at hj
  simp [hj]
theorem upto_set {α : Type} {n k : Nat} {f : Nat → α} {z : α} (h : k < n) : (upto n k f z).take k ++ [f k] ++ (upto n k f z).drop (k + 1) = upto n (k + 1) f z := by
  apply List.ext_getElem?
  intro i
  have hl : ((upto n k f z).take k ++ [f k]).length = k + 1 := by simp [upto_len]; omega
  by_cases hi : i < n
  · rw [upto_get hi]
    by_cases h1 : i < k
    · rw [List.getElem?_append_left (by omega), List.getElem?_append_left (by simp [upto_len]; omega), List.getElem?_take_of_lt h1, upto_get hi, if_pos h1, if_pos (by omega)]
    · by_cases h2 : i = k
      · subst h2
        have e : ((upto n i f z).take i).length = i := by simp [upto_len]; omega
        rw [List.getElem?_append_left (by omega), List.getElem?_append_right (by omega), e, Nat.sub_self, if_pos (by omega)]; rfl
      · rw [List.getElem?_append_right (by omega), hl, List.getElem?_drop]
        have : k + 1 + (i - (k + 1)) = i := by omega
        rw [this, upto_get hi, if_neg h1, if_neg (by omega)]
  · have e : ((upto n k f z).drop (k + 1)).length = n - (k + 1) := by simp [upto_len]
    have e1 : ((upto n k f z).take k ++ [f k] ++ (upto n k f z).drop (k + 1)).length = n := by rw [List.length_append, hl, e]; omega
    rw [List.getElem?_eq_none (by rw [e1]; omega), List.getElem?_eq_none (by rw [upto_len]; omega)]

/-! ### Comparisons -/

theorem lss_t {a b : Int} (h : intCm .lss a b = true) : a < b := by simpa [intCm] using h
theorem lss_f {a b : Int} (h : intCm .lss a b = false) : b ≤ a := by simpa [intCm] using h
theorem leq_t {a b : Int} (h : intCm .leq a b = true) : a ≤ b := by simpa [intCm] using h
theorem leq_f {a b : Int} (h : intCm .leq a b = false) : b < a := by simpa [intCm] using h
theorem gtr_t {a b : Int} (h : intCm .gtr a b = true) : b < a := by simpa [intCm] using h
theorem gtr_f {a b : Int} (h : intCm .gtr a b = false) : a ≤ b := by simpa [intCm] using h
theorem geq_t {a b : Int} (h : intCm .geq a b = true) : b ≤ a := by simpa [intCm] using h
theorem geq_f {a b : Int} (h : intCm .geq a b = false) : a < b := by simpa [intCm] using h
theorem eql_t {a b : Int} (h : intCm .eql a b = true) : a = b := by simpa [intCm] using h
theorem eql_f {a b : Int} (h : intCm .eql a b = false) : a ≠ b := by simpa [intCm] using h
theorem neq_t {a b : Int} (h : intCm .neq a b = true) : a ≠ b := by simpa [intCm] using h
theorem neq_f {a b : Int} (h : intCm .neq a b = false) : a = b := by simpa [intCm] using h

end Hk
