/-
  NARROWER THAN 'FOR EVERY INPUT', by the rows' own cells (each row's printed sentence says how): RxFirst: loops · RxMakes: loops · RxLast: loops · RxMay: loops · RxFacts: loops.
  DERIVED. THE GIVEN ROWS OF THIS SEAT. 13 by the template 'for every input the law returns true; each argument reads behind the call as it read before'; 0 by the template 'total and deterministic' (their statements: YtmgkffdnnjpmpaaTotals.lean).
  GIVEN WITH THE SEED: the statements are not yours to turn. If you find one false, say at which input.
  Laid BY PROGRAM, IN A SANDBOX (cutbox-rows.mjs): the forced cells as the released guide's own fill.sh prints them over the translation 25faa2299c289ca6… (all of the seat's roots in one cut). By AI agents, Wed Nov 11 2026. No macro, syntax, notation, axiom, sorry.
-/
import Derived.Test.YtmgkffdnnjpmpaaChecked
import GoSem.Claim
import GoSem.ClaimJoined
import GoSem.ClaimMapViews
import Derived.JoinedTies
import Derived.KernelRfl
namespace Go.Proofs.Ytmgkffdnnjpmpaa
/- THE CELL 'sum', in the pinned program and in every row, IS THE sha256 OF THE DUMP (.gsa) THAT YtmgkffdnnjpmpaaProg.lean LOADS. Nothing in Lean hashes anything: it is a label: what it is worth is what the hold of that sum in a sandbox is worth. -/
noncomputable def Try.pinned : Pinned := { name := "ytmgkffdnnjpmpaa", sum := "25faa2299c289ca653bb1c1209207a7ab7fefff5a18db1fa108ae3edec0634d4", checked := Try.checked }
namespace Rows
def none {H : Type} : Left H := { results := [], args := [] }

/-- 'hacklelaw17.CrcTable': WHATEVER THE INPUT: true; the input reads as it did. -/
def crcTableSpec : ChangeSpec := { name := "crcTable", fn := fun _ => fun
  | [] => { results := [.lit (.bool true)], args := [] }
  | _ => none }
def crcTableRow : OpenClaim := { program := "ytmgkffdnnjpmpaa", sum := "25faa2299c289ca653bb1c1209207a7ab7fefff5a18db1fa108ae3edec0634d4", func := "hackle/hacklelaw17.CrcTable", spec := "crcTable", apart := false }
def CrcTableSaid : Prop := crcTableRow.holds Try.pinned (OpenSpec.ofChange crcTableSpec)

/-- ITS FALSE NEIGHBOUR: 'it returns false'. Refute it at one input. -/
def crcTableWrong : ChangeSpec := { name := "crcTable", fn := fun _ => fun
  | [] => { results := [.lit (.bool false)], args := [] }
  | _ => none }
def CrcTableWrongFalsely : Prop := crcTableRow.holds Try.pinned (OpenSpec.ofChange crcTableWrong)

/-- 'hacklelaw17.CrcTurned': WHATEVER THE INPUT: true; the input reads as it did. -/
def crcTurnedSpec : ChangeSpec := { name := "crcTurned", fn := fun _ => fun
  | [d1, d2, d3] => { results := [.lit (.bool true)], args := [d1, d2, d3] }
  | _ => none }
def crcTurnedRow : OpenClaim := { program := "ytmgkffdnnjpmpaa", sum := "25faa2299c289ca653bb1c1209207a7ab7fefff5a18db1fa108ae3edec0634d4", func := "hackle/hacklelaw17.CrcTurned", spec := "crcTurned", apart := false }
def CrcTurnedSaid : Prop := crcTurnedRow.holds Try.pinned (OpenSpec.ofChange crcTurnedSpec)

/-- ITS FALSE NEIGHBOUR: 'it returns false'. Refute it at one input. -/
def crcTurnedWrong : ChangeSpec := { name := "crcTurned", fn := fun _ => fun
  | [d1, d2, d3] => { results := [.lit (.bool false)], args := [d1, d2, d3] }
  | _ => none }
def CrcTurnedWrongFalsely : Prop := crcTurnedRow.holds Try.pinned (OpenSpec.ofChange crcTurnedWrong)

/-- 'hacklelaw17.CrcAround': WHATEVER THE INPUT: true; the input reads as it did. -/
def crcAroundSpec : ChangeSpec := { name := "crcAround", fn := fun _ => fun
  | [d1, d2, d3] => { results := [.lit (.bool true)], args := [d1, d2, d3] }
  | _ => none }
def crcAroundRow : OpenClaim := { program := "ytmgkffdnnjpmpaa", sum := "25faa2299c289ca653bb1c1209207a7ab7fefff5a18db1fa108ae3edec0634d4", func := "hackle/hacklelaw17.CrcAround", spec := "crcAround", apart := false }
def CrcAroundSaid : Prop := crcAroundRow.holds Try.pinned (OpenSpec.ofChange crcAroundSpec)

/-- ITS FALSE NEIGHBOUR: 'it returns false'. Refute it at one input. -/
def crcAroundWrong : ChangeSpec := { name := "crcAround", fn := fun _ => fun
  | [d1, d2, d3] => { results := [.lit (.bool false)], args := [d1, d2, d3] }
  | _ => none }
def CrcAroundWrongFalsely : Prop := crcAroundRow.holds Try.pinned (OpenSpec.ofChange crcAroundWrong)

/-- 'hacklelaw17.CrcSums': WHATEVER THE INPUT: true; the input reads as it did. -/
def crcSumsSpec : ChangeSpec := { name := "crcSums", fn := fun _ => fun
  | [d1, d2] => { results := [.lit (.bool true)], args := [d1, d2] }
  | _ => none }
def crcSumsRow : OpenClaim := { program := "ytmgkffdnnjpmpaa", sum := "25faa2299c289ca653bb1c1209207a7ab7fefff5a18db1fa108ae3edec0634d4", func := "hackle/hacklelaw17.CrcSums", spec := "crcSums", apart := false }
def CrcSumsSaid : Prop := crcSumsRow.holds Try.pinned (OpenSpec.ofChange crcSumsSpec)

/-- ITS FALSE NEIGHBOUR: 'it returns false'. Refute it at one input. -/
def crcSumsWrong : ChangeSpec := { name := "crcSums", fn := fun _ => fun
  | [d1, d2] => { results := [.lit (.bool false)], args := [d1, d2] }
  | _ => none }
def CrcSumsWrongFalsely : Prop := crcSumsRow.holds Try.pinned (OpenSpec.ofChange crcSumsWrong)

/-- 'hacklelaw17.CrcJoins': WHATEVER THE INPUT: true; the input reads as it did. -/
def crcJoinsSpec : ChangeSpec := { name := "crcJoins", fn := fun _ => fun
  | [d1, d2] => { results := [.lit (.bool true)], args := [d1, d2] }
  | _ => none }
def crcJoinsRow : OpenClaim := { program := "ytmgkffdnnjpmpaa", sum := "25faa2299c289ca653bb1c1209207a7ab7fefff5a18db1fa108ae3edec0634d4", func := "hackle/hacklelaw17.CrcJoins", spec := "crcJoins", apart := false }
def CrcJoinsSaid : Prop := crcJoinsRow.holds Try.pinned (OpenSpec.ofChange crcJoinsSpec)

/-- ITS FALSE NEIGHBOUR: 'it returns false'. Refute it at one input. -/
def crcJoinsWrong : ChangeSpec := { name := "crcJoins", fn := fun _ => fun
  | [d1, d2] => { results := [.lit (.bool false)], args := [d1, d2] }
  | _ => none }
def CrcJoinsWrongFalsely : Prop := crcJoinsRow.holds Try.pinned (OpenSpec.ofChange crcJoinsWrong)

/-- 'hacklelaw17.CrcRaw': WHATEVER THE INPUT: true; the input reads as it did. -/
def crcRawSpec : ChangeSpec := { name := "crcRaw", fn := fun _ => fun
  | [d1, d2, d3] => { results := [.lit (.bool true)], args := [d1, d2, d3] }
  | _ => none }
def crcRawRow : OpenClaim := { program := "ytmgkffdnnjpmpaa", sum := "25faa2299c289ca653bb1c1209207a7ab7fefff5a18db1fa108ae3edec0634d4", func := "hackle/hacklelaw17.CrcRaw", spec := "crcRaw", apart := false }
def CrcRawSaid : Prop := crcRawRow.holds Try.pinned (OpenSpec.ofChange crcRawSpec)

/-- ITS FALSE NEIGHBOUR: 'it returns false'. Refute it at one input. -/
def crcRawWrong : ChangeSpec := { name := "crcRaw", fn := fun _ => fun
  | [d1, d2, d3] => { results := [.lit (.bool false)], args := [d1, d2, d3] }
  | _ => none }
def CrcRawWrongFalsely : Prop := crcRawRow.holds Try.pinned (OpenSpec.ofChange crcRawWrong)

/-- 'hacklelaw19.KmpFeeds': WHATEVER THE INPUT: true; the input reads as it did. -/
def kmpFeedsSpec : ChangeSpec := { name := "kmpFeeds", fn := fun _ => fun
  | [d1, d2] => { results := [.lit (.bool true)], args := [d1, d2] }
  | _ => none }
def kmpFeedsRow : OpenClaim := { program := "ytmgkffdnnjpmpaa", sum := "25faa2299c289ca653bb1c1209207a7ab7fefff5a18db1fa108ae3edec0634d4", func := "hackle/hacklelaw19.KmpFeeds", spec := "kmpFeeds", unfollowed := true, recurses := true, apart := false }
def KmpFeedsSaid : Prop := kmpFeedsRow.holds Try.pinned (OpenSpec.ofChange kmpFeedsSpec)

/-- ITS FALSE NEIGHBOUR: 'it returns false'. Refute it at one input. -/
def kmpFeedsWrong : ChangeSpec := { name := "kmpFeeds", fn := fun _ => fun
  | [d1, d2] => { results := [.lit (.bool false)], args := [d1, d2] }
  | _ => none }
def KmpFeedsWrongFalsely : Prop := kmpFeedsRow.holds Try.pinned (OpenSpec.ofChange kmpFeedsWrong)

/-- 'hacklelaw19.KmpNone': WHATEVER THE INPUT: true; the input reads as it did. -/
def kmpNoneSpec : ChangeSpec := { name := "kmpNone", fn := fun _ => fun
  | [d] => { results := [.lit (.bool true)], args := [d] }
  | _ => none }
def kmpNoneRow : OpenClaim := { program := "ytmgkffdnnjpmpaa", sum := "25faa2299c289ca653bb1c1209207a7ab7fefff5a18db1fa108ae3edec0634d4", func := "hackle/hacklelaw19.KmpNone", spec := "kmpNone", unfollowed := true, recurses := true, apart := false }
def KmpNoneSaid : Prop := kmpNoneRow.holds Try.pinned (OpenSpec.ofChange kmpNoneSpec)

/-- ITS FALSE NEIGHBOUR: 'it returns false'. Refute it at one input. -/
def kmpNoneWrong : ChangeSpec := { name := "kmpNone", fn := fun _ => fun
  | [d] => { results := [.lit (.bool false)], args := [d] }
  | _ => none }
def KmpNoneWrongFalsely : Prop := kmpNoneRow.holds Try.pinned (OpenSpec.ofChange kmpNoneWrong)

/-- 'hacklelaw04.RxFirst': WHATEVER THE INPUT: true; the input reads as it did. -/
def rxFirstSpec : ChangeSpec := { name := "rxFirst", fn := fun _ => fun
  | [d] => { results := [.lit (.bool true)], args := [d] }
  | _ => none }
def rxFirstRow : OpenClaim := { program := "ytmgkffdnnjpmpaa", sum := "25faa2299c289ca653bb1c1209207a7ab7fefff5a18db1fa108ae3edec0634d4", func := "hackle/hacklelaw04.RxFirst", spec := "rxFirst", unfollowed := true, recurses := true, loops := true, apart := false }
def RxFirstSaid : Prop := rxFirstRow.holds Try.pinned (OpenSpec.ofChange rxFirstSpec)

/-- ITS FALSE NEIGHBOUR: 'it returns false'. Refute it at one input. -/
def rxFirstWrong : ChangeSpec := { name := "rxFirst", fn := fun _ => fun
  | [d] => { results := [.lit (.bool false)], args := [d] }
  | _ => none }
def RxFirstWrongFalsely : Prop := rxFirstRow.holds Try.pinned (OpenSpec.ofChange rxFirstWrong)

/-- 'hacklelaw04.RxMakes': WHATEVER THE INPUT: true; the input reads as it did. -/
def rxMakesSpec : ChangeSpec := { name := "rxMakes", fn := fun _ => fun
  | [d1, d2, d3] => { results := [.lit (.bool true)], args := [d1, d2, d3] }
  | _ => none }
def rxMakesRow : OpenClaim := { program := "ytmgkffdnnjpmpaa", sum := "25faa2299c289ca653bb1c1209207a7ab7fefff5a18db1fa108ae3edec0634d4", func := "hackle/hacklelaw04.RxMakes", spec := "rxMakes", unfollowed := true, recurses := true, loops := true, apart := false }
def RxMakesSaid : Prop := rxMakesRow.holds Try.pinned (OpenSpec.ofChange rxMakesSpec)

/-- ITS FALSE NEIGHBOUR: 'it returns false'. Refute it at one input. -/
def rxMakesWrong : ChangeSpec := { name := "rxMakes", fn := fun _ => fun
  | [d1, d2, d3] => { results := [.lit (.bool false)], args := [d1, d2, d3] }
  | _ => none }
def RxMakesWrongFalsely : Prop := rxMakesRow.holds Try.pinned (OpenSpec.ofChange rxMakesWrong)

/-- 'hacklelaw04.RxLast': WHATEVER THE INPUT: true; the input reads as it did. -/
def rxLastSpec : ChangeSpec := { name := "rxLast", fn := fun _ => fun
  | [d1, d2] => { results := [.lit (.bool true)], args := [d1, d2] }
  | _ => none }
def rxLastRow : OpenClaim := { program := "ytmgkffdnnjpmpaa", sum := "25faa2299c289ca653bb1c1209207a7ab7fefff5a18db1fa108ae3edec0634d4", func := "hackle/hacklelaw04.RxLast", spec := "rxLast", unfollowed := true, recurses := true, loops := true, apart := false }
def RxLastSaid : Prop := rxLastRow.holds Try.pinned (OpenSpec.ofChange rxLastSpec)

/-- ITS FALSE NEIGHBOUR: 'it returns false'. Refute it at one input. -/
def rxLastWrong : ChangeSpec := { name := "rxLast", fn := fun _ => fun
  | [d1, d2] => { results := [.lit (.bool false)], args := [d1, d2] }
  | _ => none }
def RxLastWrongFalsely : Prop := rxLastRow.holds Try.pinned (OpenSpec.ofChange rxLastWrong)

/-- 'hacklelaw04.RxMay': WHATEVER THE INPUT: true; the input reads as it did. -/
def rxMaySpec : ChangeSpec := { name := "rxMay", fn := fun _ => fun
  | [d1, d2] => { results := [.lit (.bool true)], args := [d1, d2] }
  | _ => none }
def rxMayRow : OpenClaim := { program := "ytmgkffdnnjpmpaa", sum := "25faa2299c289ca653bb1c1209207a7ab7fefff5a18db1fa108ae3edec0634d4", func := "hackle/hacklelaw04.RxMay", spec := "rxMay", unfollowed := true, recurses := true, loops := true, apart := false }
def RxMaySaid : Prop := rxMayRow.holds Try.pinned (OpenSpec.ofChange rxMaySpec)

/-- ITS FALSE NEIGHBOUR: 'it returns false'. Refute it at one input. -/
def rxMayWrong : ChangeSpec := { name := "rxMay", fn := fun _ => fun
  | [d1, d2] => { results := [.lit (.bool false)], args := [d1, d2] }
  | _ => none }
def RxMayWrongFalsely : Prop := rxMayRow.holds Try.pinned (OpenSpec.ofChange rxMayWrong)

/-- 'hacklelaw04.RxFacts': WHATEVER THE INPUT: true; the input reads as it did. -/
def rxFactsSpec : ChangeSpec := { name := "rxFacts", fn := fun _ => fun
  | [d] => { results := [.lit (.bool true)], args := [d] }
  | _ => none }
def rxFactsRow : OpenClaim := { program := "ytmgkffdnnjpmpaa", sum := "25faa2299c289ca653bb1c1209207a7ab7fefff5a18db1fa108ae3edec0634d4", func := "hackle/hacklelaw04.RxFacts", spec := "rxFacts", unfollowed := true, recurses := true, loops := true, apart := false }
def RxFactsSaid : Prop := rxFactsRow.holds Try.pinned (OpenSpec.ofChange rxFactsSpec)

/-- ITS FALSE NEIGHBOUR: 'it returns false'. Refute it at one input. -/
def rxFactsWrong : ChangeSpec := { name := "rxFacts", fn := fun _ => fun
  | [d] => { results := [.lit (.bool false)], args := [d] }
  | _ => none }
def RxFactsWrongFalsely : Prop := rxFactsRow.holds Try.pinned (OpenSpec.ofChange rxFactsWrong)

/- THE SECOND FORM. 'bulk': how many values and letters a reading holds, each counted each time it is reached (what is shared counts as often as it is met; a slice's spare places count too). A statement '..UptoSaid' is the law's where the arguments, and the package variables that the reading takes, are together of bulk at most 1048576: NARROWER than '..Said'. Prove '..Said' where nothing that the law and all that it calls make is longer than what came in: it says more and counts as full. Else prove '..UptoSaid'. A law counts once. -/
mutual
def uptoBulk {H : Type} : DataW H → Nat
  | .lit (.string bytes) => bytes.length + 1
  | .lit _ => 1
  | .nil => 1
  | .ptr d => uptoBulk d + 1
  | .slice elems spare => uptoBulkAll elems + uptoBulkAll spare + 1
  | .agg parts => uptoBulkAll parts + 1
  | .iface _ d => uptoBulk d + 1
  | .map entries => uptoBulkEntries entries + 1
  | .held _ => 1
def uptoBulkAll {H : Type} : List (DataW H) → Nat
  | [] => 0
  | d :: r => uptoBulk d + uptoBulkAll r
def uptoBulkEntries {H : Type} : List (Lit × DataW H) → Nat
  | [] => 0
  | x :: r => uptoBulkEntry x + uptoBulkEntries r
def uptoBulkEntry {H : Type} : Lit × DataW H → Nat
  | (.string bytes, d) => bytes.length + uptoBulk d + 1
  | (_, d) => uptoBulk d + 1
 end
def uptoSmall : (H : Type) → List (DataW H) → Bool := fun _ ds => decide (uptoBulkAll ds ≤ 1048576)
def OpenSpec.upto (s : _root_.Go.ChangeSpec) : _root_.Go.OpenSpec := { _root_.Go.OpenSpec.ofChange s with cond := some uptoSmall }

/-- 'hacklelaw17.CrcTable', WHERE WHAT IT READS IS OF BULK AT MOST 1048576: true; the input reads as it did. -/
def crcTableUptoRow : OpenClaim := { program := "ytmgkffdnnjpmpaa", sum := "25faa2299c289ca653bb1c1209207a7ab7fefff5a18db1fa108ae3edec0634d4", func := "hackle/hacklelaw17.CrcTable", spec := "crcTable", apart := false, narrowed := true }
def CrcTableUptoSaid : Prop := crcTableUptoRow.holds Try.pinned (OpenSpec.upto crcTableSpec)

/-- 'hacklelaw17.CrcTurned', WHERE WHAT IT READS IS OF BULK AT MOST 1048576: true; the input reads as it did. -/
def crcTurnedUptoRow : OpenClaim := { program := "ytmgkffdnnjpmpaa", sum := "25faa2299c289ca653bb1c1209207a7ab7fefff5a18db1fa108ae3edec0634d4", func := "hackle/hacklelaw17.CrcTurned", spec := "crcTurned", apart := false, narrowed := true }
def CrcTurnedUptoSaid : Prop := crcTurnedUptoRow.holds Try.pinned (OpenSpec.upto crcTurnedSpec)

/-- 'hacklelaw17.CrcAround', WHERE WHAT IT READS IS OF BULK AT MOST 1048576: true; the input reads as it did. -/
def crcAroundUptoRow : OpenClaim := { program := "ytmgkffdnnjpmpaa", sum := "25faa2299c289ca653bb1c1209207a7ab7fefff5a18db1fa108ae3edec0634d4", func := "hackle/hacklelaw17.CrcAround", spec := "crcAround", apart := false, narrowed := true }
def CrcAroundUptoSaid : Prop := crcAroundUptoRow.holds Try.pinned (OpenSpec.upto crcAroundSpec)

/-- 'hacklelaw17.CrcSums', WHERE WHAT IT READS IS OF BULK AT MOST 1048576: true; the input reads as it did. -/
def crcSumsUptoRow : OpenClaim := { program := "ytmgkffdnnjpmpaa", sum := "25faa2299c289ca653bb1c1209207a7ab7fefff5a18db1fa108ae3edec0634d4", func := "hackle/hacklelaw17.CrcSums", spec := "crcSums", apart := false, narrowed := true }
def CrcSumsUptoSaid : Prop := crcSumsUptoRow.holds Try.pinned (OpenSpec.upto crcSumsSpec)

/-- 'hacklelaw17.CrcJoins', WHERE WHAT IT READS IS OF BULK AT MOST 1048576: true; the input reads as it did. -/
def crcJoinsUptoRow : OpenClaim := { program := "ytmgkffdnnjpmpaa", sum := "25faa2299c289ca653bb1c1209207a7ab7fefff5a18db1fa108ae3edec0634d4", func := "hackle/hacklelaw17.CrcJoins", spec := "crcJoins", apart := false, narrowed := true }
def CrcJoinsUptoSaid : Prop := crcJoinsUptoRow.holds Try.pinned (OpenSpec.upto crcJoinsSpec)

/-- 'hacklelaw17.CrcRaw', WHERE WHAT IT READS IS OF BULK AT MOST 1048576: true; the input reads as it did. -/
def crcRawUptoRow : OpenClaim := { program := "ytmgkffdnnjpmpaa", sum := "25faa2299c289ca653bb1c1209207a7ab7fefff5a18db1fa108ae3edec0634d4", func := "hackle/hacklelaw17.CrcRaw", spec := "crcRaw", apart := false, narrowed := true }
def CrcRawUptoSaid : Prop := crcRawUptoRow.holds Try.pinned (OpenSpec.upto crcRawSpec)

/-- 'hacklelaw19.KmpFeeds', WHERE WHAT IT READS IS OF BULK AT MOST 1048576: true; the input reads as it did. -/
def kmpFeedsUptoRow : OpenClaim := { program := "ytmgkffdnnjpmpaa", sum := "25faa2299c289ca653bb1c1209207a7ab7fefff5a18db1fa108ae3edec0634d4", func := "hackle/hacklelaw19.KmpFeeds", spec := "kmpFeeds", unfollowed := true, recurses := true, apart := false, narrowed := true }
def KmpFeedsUptoSaid : Prop := kmpFeedsUptoRow.holds Try.pinned (OpenSpec.upto kmpFeedsSpec)

/-- 'hacklelaw19.KmpNone', WHERE WHAT IT READS IS OF BULK AT MOST 1048576: true; the input reads as it did. -/
def kmpNoneUptoRow : OpenClaim := { program := "ytmgkffdnnjpmpaa", sum := "25faa2299c289ca653bb1c1209207a7ab7fefff5a18db1fa108ae3edec0634d4", func := "hackle/hacklelaw19.KmpNone", spec := "kmpNone", unfollowed := true, recurses := true, apart := false, narrowed := true }
def KmpNoneUptoSaid : Prop := kmpNoneUptoRow.holds Try.pinned (OpenSpec.upto kmpNoneSpec)

/-- 'hacklelaw04.RxFirst', WHERE WHAT IT READS IS OF BULK AT MOST 1048576: true; the input reads as it did. -/
def rxFirstUptoRow : OpenClaim := { program := "ytmgkffdnnjpmpaa", sum := "25faa2299c289ca653bb1c1209207a7ab7fefff5a18db1fa108ae3edec0634d4", func := "hackle/hacklelaw04.RxFirst", spec := "rxFirst", unfollowed := true, recurses := true, loops := true, apart := false, narrowed := true }
def RxFirstUptoSaid : Prop := rxFirstUptoRow.holds Try.pinned (OpenSpec.upto rxFirstSpec)

/-- 'hacklelaw04.RxMakes', WHERE WHAT IT READS IS OF BULK AT MOST 1048576: true; the input reads as it did. -/
def rxMakesUptoRow : OpenClaim := { program := "ytmgkffdnnjpmpaa", sum := "25faa2299c289ca653bb1c1209207a7ab7fefff5a18db1fa108ae3edec0634d4", func := "hackle/hacklelaw04.RxMakes", spec := "rxMakes", unfollowed := true, recurses := true, loops := true, apart := false, narrowed := true }
def RxMakesUptoSaid : Prop := rxMakesUptoRow.holds Try.pinned (OpenSpec.upto rxMakesSpec)

/-- 'hacklelaw04.RxLast', WHERE WHAT IT READS IS OF BULK AT MOST 1048576: true; the input reads as it did. -/
def rxLastUptoRow : OpenClaim := { program := "ytmgkffdnnjpmpaa", sum := "25faa2299c289ca653bb1c1209207a7ab7fefff5a18db1fa108ae3edec0634d4", func := "hackle/hacklelaw04.RxLast", spec := "rxLast", unfollowed := true, recurses := true, loops := true, apart := false, narrowed := true }
def RxLastUptoSaid : Prop := rxLastUptoRow.holds Try.pinned (OpenSpec.upto rxLastSpec)

/-- 'hacklelaw04.RxMay', WHERE WHAT IT READS IS OF BULK AT MOST 1048576: true; the input reads as it did. -/
def rxMayUptoRow : OpenClaim := { program := "ytmgkffdnnjpmpaa", sum := "25faa2299c289ca653bb1c1209207a7ab7fefff5a18db1fa108ae3edec0634d4", func := "hackle/hacklelaw04.RxMay", spec := "rxMay", unfollowed := true, recurses := true, loops := true, apart := false, narrowed := true }
def RxMayUptoSaid : Prop := rxMayUptoRow.holds Try.pinned (OpenSpec.upto rxMaySpec)

/-- 'hacklelaw04.RxFacts', WHERE WHAT IT READS IS OF BULK AT MOST 1048576: true; the input reads as it did. -/
def rxFactsUptoRow : OpenClaim := { program := "ytmgkffdnnjpmpaa", sum := "25faa2299c289ca653bb1c1209207a7ab7fefff5a18db1fa108ae3edec0634d4", func := "hackle/hacklelaw04.RxFacts", spec := "rxFacts", unfollowed := true, recurses := true, loops := true, apart := false, narrowed := true }
def RxFactsUptoSaid : Prop := rxFactsUptoRow.holds Try.pinned (OpenSpec.upto rxFactsSpec)

end Rows
end Go.Proofs.Ytmgkffdnnjpmpaa
