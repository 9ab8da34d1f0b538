/-
  NARROWER THAN 'FOR EVERY INPUT', by the rows' own cells (each row's printed sentence says how): ProdOver: laid · ProdFinds: laid · ProdWalks: laid · MiniBlocks: laid · MiniMins: laid · MiniApart: laid · MiniRules: loops, laid · MiniKeeps: laid · MiniEqual: laid · TableMakes: loops, laid · TableOf: laid · TableMatches: laid · TableRules: loops, laid · TableTexts: laid · ProdAlike: laid.
  DERIVED. THE GIVEN ROWS OF THIS SEAT. 15 by the template 'for every input the law returns true; each argument reads behind the call as it read before'; 0 by the template 'total and deterministic' (their statements: YteicokbnoonipaaGreatDoorTotals.lean).
  GIVEN WITH THE SEED: the statements are not yours to turn. If you find one false, say at which input.
  Laid BY PROGRAM, IN A SANDBOX (cutbox-rows.mjs): the forced cells as the released guide's own fill.sh prints them over the translation eac93771909af1a4… (all of the seat's roots in one cut). By AI agents, Wed Nov 11 2026. No macro, syntax, notation, axiom, sorry.
-/
import Derived.Test.YteicokbnoonipaaGreatDoorChecked
import GoSem.Claim
import GoSem.ClaimJoined
import GoSem.ClaimMapViews
import Derived.JoinedTies
import Derived.KernelRfl
namespace Go.Proofs.YteicokbnoonipaaGreatDoor
/- THE CELL 'sum', in the pinned program and in every row, IS THE sha256 OF THE DUMP (.gsa) THAT YteicokbnoonipaaGreatDoorProg.lean LOADS. Nothing in Lean hashes anything: it is a label: what it is worth is what the hold of that sum in a sandbox is worth. -/
noncomputable def Tryz.pinned : Pinned := { name := "yteicokbnoonipaagreatdoor", sum := "eac93771909af1a415e65250df8817d8535976d96dff1ff3fc6a2021332b8c20", checked := Tryz.checked }
namespace Rows
def none {H : Type} : Left H := { results := [], args := [] }

/- WHAT THE LISTED PACKAGE-LEVEL VARIABLES READ AS WHEN THE CALL BEGINS. Each datum BY PROGRAM (the guide's laid-datum.mjs) off the statement by which the dump's own 'gosem.cut.vars' lays the variable. In a bare row this is a premise. The card (YteicokbnoonipaaGreatDoorCards.lean) ties it to the program's text. -/
def laid_math_bits_deBruijn64tab {H : Type} : DataW H := .agg [.lit (.int .u8 0), .lit (.int .u8 1), .lit (.int .u8 56), .lit (.int .u8 2), .lit (.int .u8 57), .lit (.int .u8 49), .lit (.int .u8 28), .lit (.int .u8 3), .lit (.int .u8 61), .lit (.int .u8 58), .lit (.int .u8 42), .lit (.int .u8 50), .lit (.int .u8 38), .lit (.int .u8 29), .lit (.int .u8 17), .lit (.int .u8 4), .lit (.int .u8 62), .lit (.int .u8 47), .lit (.int .u8 59), .lit (.int .u8 36), .lit (.int .u8 45), .lit (.int .u8 43), .lit (.int .u8 51), .lit (.int .u8 22), .lit (.int .u8 53), .lit (.int .u8 39), .lit (.int .u8 33), .lit (.int .u8 30), .lit (.int .u8 24), .lit (.int .u8 18), .lit (.int .u8 12), .lit (.int .u8 5), .lit (.int .u8 63), .lit (.int .u8 55), .lit (.int .u8 48), .lit (.int .u8 27), .lit (.int .u8 60), .lit (.int .u8 41), .lit (.int .u8 37), .lit (.int .u8 16), .lit (.int .u8 46), .lit (.int .u8 35), .lit (.int .u8 44), .lit (.int .u8 21), .lit (.int .u8 52), .lit (.int .u8 32), .lit (.int .u8 23), .lit (.int .u8 11), .lit (.int .u8 54), .lit (.int .u8 26), .lit (.int .u8 40), .lit (.int .u8 15), .lit (.int .u8 34), .lit (.int .u8 20), .lit (.int .u8 31), .lit (.int .u8 10), .lit (.int .u8 25), .lit (.int .u8 14), .lit (.int .u8 19), .lit (.int .u8 9), .lit (.int .u8 13), .lit (.int .u8 8), .lit (.int .u8 7), .lit (.int .u8 6)]

/-- 'hacklelaw12.ProdOver': WHATEVER THE INPUT: true; the input reads as it did. -/
def prodOverSpec : ChangeSpec := { name := "prodOver", fn := fun _ => fun
  | [d1, d2, d3] => { results := [.lit (.bool true)], args := [d1, d2, d3] }
  | _ => none }
def prodOverRow : OpenClaim := { program := "yteicokbnoonipaagreatdoor", sum := "eac93771909af1a415e65250df8817d8535976d96dff1ff3fc6a2021332b8c20", func := "hackle/hacklelaw12.ProdOver", spec := "prodOver", unfollowed := true, recurses := true, named := ["math/bits.deBruijn64tab"], plainKeys := false, apart := false, laid := [("math/bits.deBruijn64tab", laid_math_bits_deBruijn64tab)] }
def ProdOverSaid : Prop := prodOverRow.holds Tryz.pinned (OpenSpec.ofChange prodOverSpec)

/-- ITS FALSE NEIGHBOUR: 'it returns false'. Refute it at one input. -/
def prodOverWrong : ChangeSpec := { name := "prodOver", fn := fun _ => fun
  | [d1, d2, d3] => { results := [.lit (.bool false)], args := [d1, d2, d3] }
  | _ => none }
def ProdOverWrongFalsely : Prop := prodOverRow.holds Tryz.pinned (OpenSpec.ofChange prodOverWrong)

/-- 'hacklelaw12.ProdFinds': WHATEVER THE INPUT: true; the input reads as it did. -/
def prodFindsSpec : ChangeSpec := { name := "prodFinds", fn := fun _ => fun
  | [d1, d2] => { results := [.lit (.bool true)], args := [d1, d2] }
  | _ => none }
def prodFindsRow : OpenClaim := { program := "yteicokbnoonipaagreatdoor", sum := "eac93771909af1a415e65250df8817d8535976d96dff1ff3fc6a2021332b8c20", func := "hackle/hacklelaw12.ProdFinds", spec := "prodFinds", unfollowed := true, recurses := true, named := ["math/bits.deBruijn64tab"], plainKeys := false, apart := false, laid := [("math/bits.deBruijn64tab", laid_math_bits_deBruijn64tab)] }
def ProdFindsSaid : Prop := prodFindsRow.holds Tryz.pinned (OpenSpec.ofChange prodFindsSpec)

/-- ITS FALSE NEIGHBOUR: 'it returns false'. Refute it at one input. -/
def prodFindsWrong : ChangeSpec := { name := "prodFinds", fn := fun _ => fun
  | [d1, d2] => { results := [.lit (.bool false)], args := [d1, d2] }
  | _ => none }
def ProdFindsWrongFalsely : Prop := prodFindsRow.holds Tryz.pinned (OpenSpec.ofChange prodFindsWrong)

/-- 'hacklelaw12.ProdWalks': WHATEVER THE INPUT: true; the input reads as it did. -/
def prodWalksSpec : ChangeSpec := { name := "prodWalks", fn := fun _ => fun
  | [d1, d2] => { results := [.lit (.bool true)], args := [d1, d2] }
  | _ => none }
def prodWalksRow : OpenClaim := { program := "yteicokbnoonipaagreatdoor", sum := "eac93771909af1a415e65250df8817d8535976d96dff1ff3fc6a2021332b8c20", func := "hackle/hacklelaw12.ProdWalks", spec := "prodWalks", unfollowed := true, recurses := true, named := ["math/bits.deBruijn64tab"], plainKeys := false, apart := false, laid := [("math/bits.deBruijn64tab", laid_math_bits_deBruijn64tab)] }
def ProdWalksSaid : Prop := prodWalksRow.holds Tryz.pinned (OpenSpec.ofChange prodWalksSpec)

/-- ITS FALSE NEIGHBOUR: 'it returns false'. Refute it at one input. -/
def prodWalksWrong : ChangeSpec := { name := "prodWalks", fn := fun _ => fun
  | [d1, d2] => { results := [.lit (.bool false)], args := [d1, d2] }
  | _ => none }
def ProdWalksWrongFalsely : Prop := prodWalksRow.holds Tryz.pinned (OpenSpec.ofChange prodWalksWrong)

/-- 'hacklelaw10.MiniBlocks': WHATEVER THE INPUT: true; the input reads as it did. -/
def miniBlocksSpec : ChangeSpec := { name := "miniBlocks", fn := fun _ => fun
  | [d] => { results := [.lit (.bool true)], args := [d] }
  | _ => none }
def miniBlocksRow : OpenClaim := { program := "yteicokbnoonipaagreatdoor", sum := "eac93771909af1a415e65250df8817d8535976d96dff1ff3fc6a2021332b8c20", func := "hackle/hacklelaw10.MiniBlocks", spec := "miniBlocks", unfollowed := true, recurses := true, named := ["math/bits.deBruijn64tab"], plainKeys := false, apart := false, laid := [("math/bits.deBruijn64tab", laid_math_bits_deBruijn64tab)] }
def MiniBlocksSaid : Prop := miniBlocksRow.holds Tryz.pinned (OpenSpec.ofChange miniBlocksSpec)

/-- ITS FALSE NEIGHBOUR: 'it returns false'. Refute it at one input. -/
def miniBlocksWrong : ChangeSpec := { name := "miniBlocks", fn := fun _ => fun
  | [d] => { results := [.lit (.bool false)], args := [d] }
  | _ => none }
def MiniBlocksWrongFalsely : Prop := miniBlocksRow.holds Tryz.pinned (OpenSpec.ofChange miniBlocksWrong)

/-- 'hacklelaw10.MiniMins': WHATEVER THE INPUT: true; the input reads as it did. -/
def miniMinsSpec : ChangeSpec := { name := "miniMins", fn := fun _ => fun
  | [d] => { results := [.lit (.bool true)], args := [d] }
  | _ => none }
def miniMinsRow : OpenClaim := { program := "yteicokbnoonipaagreatdoor", sum := "eac93771909af1a415e65250df8817d8535976d96dff1ff3fc6a2021332b8c20", func := "hackle/hacklelaw10.MiniMins", spec := "miniMins", unfollowed := true, recurses := true, named := ["math/bits.deBruijn64tab"], plainKeys := false, apart := false, laid := [("math/bits.deBruijn64tab", laid_math_bits_deBruijn64tab)] }
def MiniMinsSaid : Prop := miniMinsRow.holds Tryz.pinned (OpenSpec.ofChange miniMinsSpec)

/-- ITS FALSE NEIGHBOUR: 'it returns false'. Refute it at one input. -/
def miniMinsWrong : ChangeSpec := { name := "miniMins", fn := fun _ => fun
  | [d] => { results := [.lit (.bool false)], args := [d] }
  | _ => none }
def MiniMinsWrongFalsely : Prop := miniMinsRow.holds Tryz.pinned (OpenSpec.ofChange miniMinsWrong)

/-- 'hacklelaw10.MiniApart': WHATEVER THE INPUT: true; the input reads as it did. -/
def miniApartSpec : ChangeSpec := { name := "miniApart", fn := fun _ => fun
  | [d1, d2, d3] => { results := [.lit (.bool true)], args := [d1, d2, d3] }
  | _ => none }
def miniApartRow : OpenClaim := { program := "yteicokbnoonipaagreatdoor", sum := "eac93771909af1a415e65250df8817d8535976d96dff1ff3fc6a2021332b8c20", func := "hackle/hacklelaw10.MiniApart", spec := "miniApart", unfollowed := true, recurses := true, named := ["math/bits.deBruijn64tab"], plainKeys := false, apart := false, laid := [("math/bits.deBruijn64tab", laid_math_bits_deBruijn64tab)] }
def MiniApartSaid : Prop := miniApartRow.holds Tryz.pinned (OpenSpec.ofChange miniApartSpec)

/-- ITS FALSE NEIGHBOUR: 'it returns false'. Refute it at one input. -/
def miniApartWrong : ChangeSpec := { name := "miniApart", fn := fun _ => fun
  | [d1, d2, d3] => { results := [.lit (.bool false)], args := [d1, d2, d3] }
  | _ => none }
def MiniApartWrongFalsely : Prop := miniApartRow.holds Tryz.pinned (OpenSpec.ofChange miniApartWrong)

/-- 'hacklelaw10.MiniRules': WHATEVER THE INPUT: true; the input reads as it did. -/
def miniRulesSpec : ChangeSpec := { name := "miniRules", fn := fun _ => fun
  | [d1, d2] => { results := [.lit (.bool true)], args := [d1, d2] }
  | _ => none }
def miniRulesRow : OpenClaim := { program := "yteicokbnoonipaagreatdoor", sum := "eac93771909af1a415e65250df8817d8535976d96dff1ff3fc6a2021332b8c20", func := "hackle/hacklelaw10.MiniRules", spec := "miniRules", unfollowed := true, recurses := true, named := ["math/bits.deBruijn64tab"], loops := true, plainKeys := false, apart := false, laid := [("math/bits.deBruijn64tab", laid_math_bits_deBruijn64tab)] }
def MiniRulesSaid : Prop := miniRulesRow.holds Tryz.pinned (OpenSpec.ofChange miniRulesSpec)

/-- ITS FALSE NEIGHBOUR: 'it returns false'. Refute it at one input. -/
def miniRulesWrong : ChangeSpec := { name := "miniRules", fn := fun _ => fun
  | [d1, d2] => { results := [.lit (.bool false)], args := [d1, d2] }
  | _ => none }
def MiniRulesWrongFalsely : Prop := miniRulesRow.holds Tryz.pinned (OpenSpec.ofChange miniRulesWrong)

/-- 'hacklelaw10.MiniKeeps': WHATEVER THE INPUT: true; the input reads as it did. -/
def miniKeepsSpec : ChangeSpec := { name := "miniKeeps", fn := fun _ => fun
  | [d1, d2] => { results := [.lit (.bool true)], args := [d1, d2] }
  | _ => none }
def miniKeepsRow : OpenClaim := { program := "yteicokbnoonipaagreatdoor", sum := "eac93771909af1a415e65250df8817d8535976d96dff1ff3fc6a2021332b8c20", func := "hackle/hacklelaw10.MiniKeeps", spec := "miniKeeps", unfollowed := true, recurses := true, named := ["math/bits.deBruijn64tab"], plainKeys := false, apart := false, laid := [("math/bits.deBruijn64tab", laid_math_bits_deBruijn64tab)] }
def MiniKeepsSaid : Prop := miniKeepsRow.holds Tryz.pinned (OpenSpec.ofChange miniKeepsSpec)

/-- ITS FALSE NEIGHBOUR: 'it returns false'. Refute it at one input. -/
def miniKeepsWrong : ChangeSpec := { name := "miniKeeps", fn := fun _ => fun
  | [d1, d2] => { results := [.lit (.bool false)], args := [d1, d2] }
  | _ => none }
def MiniKeepsWrongFalsely : Prop := miniKeepsRow.holds Tryz.pinned (OpenSpec.ofChange miniKeepsWrong)

/-- 'hacklelaw10.MiniEqual': WHATEVER THE INPUT: true; the input reads as it did. -/
def miniEqualSpec : ChangeSpec := { name := "miniEqual", fn := fun _ => fun
  | [d1, d2, d3] => { results := [.lit (.bool true)], args := [d1, d2, d3] }
  | _ => none }
def miniEqualRow : OpenClaim := { program := "yteicokbnoonipaagreatdoor", sum := "eac93771909af1a415e65250df8817d8535976d96dff1ff3fc6a2021332b8c20", func := "hackle/hacklelaw10.MiniEqual", spec := "miniEqual", unfollowed := true, recurses := true, named := ["math/bits.deBruijn64tab"], plainKeys := false, apart := false, laid := [("math/bits.deBruijn64tab", laid_math_bits_deBruijn64tab)] }
def MiniEqualSaid : Prop := miniEqualRow.holds Tryz.pinned (OpenSpec.ofChange miniEqualSpec)

/-- ITS FALSE NEIGHBOUR: 'it returns false'. Refute it at one input. -/
def miniEqualWrong : ChangeSpec := { name := "miniEqual", fn := fun _ => fun
  | [d1, d2, d3] => { results := [.lit (.bool false)], args := [d1, d2, d3] }
  | _ => none }
def MiniEqualWrongFalsely : Prop := miniEqualRow.holds Tryz.pinned (OpenSpec.ofChange miniEqualWrong)

/-- 'hacklelaw11.TableMakes': WHATEVER THE INPUT: true; the input reads as it did. -/
def tableMakesSpec : ChangeSpec := { name := "tableMakes", fn := fun _ => fun
  | [d] => { results := [.lit (.bool true)], args := [d] }
  | _ => none }
def tableMakesRow : OpenClaim := { program := "yteicokbnoonipaagreatdoor", sum := "eac93771909af1a415e65250df8817d8535976d96dff1ff3fc6a2021332b8c20", func := "hackle/hacklelaw11.TableMakes", spec := "tableMakes", unfollowed := true, recurses := true, named := ["math/bits.deBruijn64tab"], loops := true, plainKeys := false, apart := false, laid := [("math/bits.deBruijn64tab", laid_math_bits_deBruijn64tab)] }
def TableMakesSaid : Prop := tableMakesRow.holds Tryz.pinned (OpenSpec.ofChange tableMakesSpec)

/-- ITS FALSE NEIGHBOUR: 'it returns false'. Refute it at one input. -/
def tableMakesWrong : ChangeSpec := { name := "tableMakes", fn := fun _ => fun
  | [d] => { results := [.lit (.bool false)], args := [d] }
  | _ => none }
def TableMakesWrongFalsely : Prop := tableMakesRow.holds Tryz.pinned (OpenSpec.ofChange tableMakesWrong)

/-- 'hacklelaw11.TableOf': WHATEVER THE INPUT: true; the input reads as it did. -/
def tableOfSpec : ChangeSpec := { name := "tableOf", fn := fun _ => fun
  | [d1, d2] => { results := [.lit (.bool true)], args := [d1, d2] }
  | _ => none }
def tableOfRow : OpenClaim := { program := "yteicokbnoonipaagreatdoor", sum := "eac93771909af1a415e65250df8817d8535976d96dff1ff3fc6a2021332b8c20", func := "hackle/hacklelaw11.TableOf", spec := "tableOf", unfollowed := true, recurses := true, named := ["math/bits.deBruijn64tab"], plainKeys := false, apart := false, laid := [("math/bits.deBruijn64tab", laid_math_bits_deBruijn64tab)] }
def TableOfSaid : Prop := tableOfRow.holds Tryz.pinned (OpenSpec.ofChange tableOfSpec)

/-- ITS FALSE NEIGHBOUR: 'it returns false'. Refute it at one input. -/
def tableOfWrong : ChangeSpec := { name := "tableOf", fn := fun _ => fun
  | [d1, d2] => { results := [.lit (.bool false)], args := [d1, d2] }
  | _ => none }
def TableOfWrongFalsely : Prop := tableOfRow.holds Tryz.pinned (OpenSpec.ofChange tableOfWrong)

/-- 'hacklelaw11.TableMatches': WHATEVER THE INPUT: true; the input reads as it did. -/
def tableMatchesSpec : ChangeSpec := { name := "tableMatches", fn := fun _ => fun
  | [d1, d2, d3] => { results := [.lit (.bool true)], args := [d1, d2, d3] }
  | _ => none }
def tableMatchesRow : OpenClaim := { program := "yteicokbnoonipaagreatdoor", sum := "eac93771909af1a415e65250df8817d8535976d96dff1ff3fc6a2021332b8c20", func := "hackle/hacklelaw11.TableMatches", spec := "tableMatches", unfollowed := true, recurses := true, named := ["math/bits.deBruijn64tab"], plainKeys := false, apart := false, laid := [("math/bits.deBruijn64tab", laid_math_bits_deBruijn64tab)] }
def TableMatchesSaid : Prop := tableMatchesRow.holds Tryz.pinned (OpenSpec.ofChange tableMatchesSpec)

/-- ITS FALSE NEIGHBOUR: 'it returns false'. Refute it at one input. -/
def tableMatchesWrong : ChangeSpec := { name := "tableMatches", fn := fun _ => fun
  | [d1, d2, d3] => { results := [.lit (.bool false)], args := [d1, d2, d3] }
  | _ => none }
def TableMatchesWrongFalsely : Prop := tableMatchesRow.holds Tryz.pinned (OpenSpec.ofChange tableMatchesWrong)

/-- 'hacklelaw11.TableRules': WHATEVER THE INPUT: true; the input reads as it did. -/
def tableRulesSpec : ChangeSpec := { name := "tableRules", fn := fun _ => fun
  | [d1, d2, d3] => { results := [.lit (.bool true)], args := [d1, d2, d3] }
  | _ => none }
def tableRulesRow : OpenClaim := { program := "yteicokbnoonipaagreatdoor", sum := "eac93771909af1a415e65250df8817d8535976d96dff1ff3fc6a2021332b8c20", func := "hackle/hacklelaw11.TableRules", spec := "tableRules", unfollowed := true, recurses := true, named := ["math/bits.deBruijn64tab"], loops := true, plainKeys := false, apart := false, laid := [("math/bits.deBruijn64tab", laid_math_bits_deBruijn64tab)] }
def TableRulesSaid : Prop := tableRulesRow.holds Tryz.pinned (OpenSpec.ofChange tableRulesSpec)

/-- ITS FALSE NEIGHBOUR: 'it returns false'. Refute it at one input. -/
def tableRulesWrong : ChangeSpec := { name := "tableRules", fn := fun _ => fun
  | [d1, d2, d3] => { results := [.lit (.bool false)], args := [d1, d2, d3] }
  | _ => none }
def TableRulesWrongFalsely : Prop := tableRulesRow.holds Tryz.pinned (OpenSpec.ofChange tableRulesWrong)

/-- 'hacklelaw11.TableTexts': WHATEVER THE INPUT: true; the input reads as it did. -/
def tableTextsSpec : ChangeSpec := { name := "tableTexts", fn := fun _ => fun
  | [d1, d2] => { results := [.lit (.bool true)], args := [d1, d2] }
  | _ => none }
def tableTextsRow : OpenClaim := { program := "yteicokbnoonipaagreatdoor", sum := "eac93771909af1a415e65250df8817d8535976d96dff1ff3fc6a2021332b8c20", func := "hackle/hacklelaw11.TableTexts", spec := "tableTexts", unfollowed := true, recurses := true, named := ["math/bits.deBruijn64tab"], plainKeys := false, apart := false, laid := [("math/bits.deBruijn64tab", laid_math_bits_deBruijn64tab)] }
def TableTextsSaid : Prop := tableTextsRow.holds Tryz.pinned (OpenSpec.ofChange tableTextsSpec)

/-- ITS FALSE NEIGHBOUR: 'it returns false'. Refute it at one input. -/
def tableTextsWrong : ChangeSpec := { name := "tableTexts", fn := fun _ => fun
  | [d1, d2] => { results := [.lit (.bool false)], args := [d1, d2] }
  | _ => none }
def TableTextsWrongFalsely : Prop := tableTextsRow.holds Tryz.pinned (OpenSpec.ofChange tableTextsWrong)

/-- 'hacklelaw12.ProdAlike': WHATEVER THE INPUT: true; the input reads as it did. -/
def prodAlikeSpec : ChangeSpec := { name := "prodAlike", fn := fun _ => fun
  | [d1, d2, d3] => { results := [.lit (.bool true)], args := [d1, d2, d3] }
  | _ => none }
def prodAlikeRow : OpenClaim := { program := "yteicokbnoonipaagreatdoor", sum := "eac93771909af1a415e65250df8817d8535976d96dff1ff3fc6a2021332b8c20", func := "hackle/hacklelaw12.ProdAlike", spec := "prodAlike", unfollowed := true, recurses := true, named := ["math/bits.deBruijn64tab"], plainKeys := false, apart := false, laid := [("math/bits.deBruijn64tab", laid_math_bits_deBruijn64tab)] }
def ProdAlikeSaid : Prop := prodAlikeRow.holds Tryz.pinned (OpenSpec.ofChange prodAlikeSpec)

/-- ITS FALSE NEIGHBOUR: 'it returns false'. Refute it at one input. -/
def prodAlikeWrong : ChangeSpec := { name := "prodAlike", fn := fun _ => fun
  | [d1, d2, d3] => { results := [.lit (.bool false)], args := [d1, d2, d3] }
  | _ => none }
def ProdAlikeWrongFalsely : Prop := prodAlikeRow.holds Tryz.pinned (OpenSpec.ofChange prodAlikeWrong)

/- THE SECOND FORM. 'bulk': how many values and letters a reading holds, each counted each time it is reached (what is shared counts as often as it is met; a slice's spare places count too). A statement '..UptoSaid' is the law's where the arguments, and the package variables that the reading takes, are together of bulk at most 1048576: NARROWER than '..Said'. Prove '..Said' where nothing that the law and all that it calls make is longer than what came in: it says more and counts as full. Else prove '..UptoSaid'. A law counts once. -/
mutual
def uptoBulk {H : Type} : DataW H → Nat
  | .lit (.string bytes) => bytes.length + 1
  | .lit _ => 1
  | .nil => 1
  | .ptr d => uptoBulk d + 1
  | .slice elems spare => uptoBulkAll elems + uptoBulkAll spare + 1
  | .agg parts => uptoBulkAll parts + 1
  | .iface _ d => uptoBulk d + 1
  | .map entries => uptoBulkEntries entries + 1
  | .held _ => 1
def uptoBulkAll {H : Type} : List (DataW H) → Nat
  | [] => 0
  | d :: r => uptoBulk d + uptoBulkAll r
def uptoBulkEntries {H : Type} : List (Lit × DataW H) → Nat
  | [] => 0
  | x :: r => uptoBulkEntry x + uptoBulkEntries r
def uptoBulkEntry {H : Type} : Lit × DataW H → Nat
  | (.string bytes, d) => bytes.length + uptoBulk d + 1
  | (_, d) => uptoBulk d + 1
 end
def uptoSmall : (H : Type) → List (DataW H) → Bool := fun _ ds => decide (uptoBulkAll ds ≤ 1048576)
def OpenSpec.upto (s : _root_.Go.ChangeSpec) : _root_.Go.OpenSpec := { _root_.Go.OpenSpec.ofChange s with cond := some uptoSmall }

/-- 'hacklelaw12.ProdOver', WHERE WHAT IT READS IS OF BULK AT MOST 1048576: true; the input reads as it did. -/
def prodOverUptoRow : OpenClaim := { program := "yteicokbnoonipaagreatdoor", sum := "eac93771909af1a415e65250df8817d8535976d96dff1ff3fc6a2021332b8c20", func := "hackle/hacklelaw12.ProdOver", spec := "prodOver", unfollowed := true, recurses := true, named := ["math/bits.deBruijn64tab"], plainKeys := false, apart := false, laid := [("math/bits.deBruijn64tab", laid_math_bits_deBruijn64tab)], narrowed := true }
def ProdOverUptoSaid : Prop := prodOverUptoRow.holds Tryz.pinned (OpenSpec.upto prodOverSpec)

/-- 'hacklelaw12.ProdFinds', WHERE WHAT IT READS IS OF BULK AT MOST 1048576: true; the input reads as it did. -/
def prodFindsUptoRow : OpenClaim := { program := "yteicokbnoonipaagreatdoor", sum := "eac93771909af1a415e65250df8817d8535976d96dff1ff3fc6a2021332b8c20", func := "hackle/hacklelaw12.ProdFinds", spec := "prodFinds", unfollowed := true, recurses := true, named := ["math/bits.deBruijn64tab"], plainKeys := false, apart := false, laid := [("math/bits.deBruijn64tab", laid_math_bits_deBruijn64tab)], narrowed := true }
def ProdFindsUptoSaid : Prop := prodFindsUptoRow.holds Tryz.pinned (OpenSpec.upto prodFindsSpec)

/-- 'hacklelaw12.ProdWalks', WHERE WHAT IT READS IS OF BULK AT MOST 1048576: true; the input reads as it did. -/
def prodWalksUptoRow : OpenClaim := { program := "yteicokbnoonipaagreatdoor", sum := "eac93771909af1a415e65250df8817d8535976d96dff1ff3fc6a2021332b8c20", func := "hackle/hacklelaw12.ProdWalks", spec := "prodWalks", unfollowed := true, recurses := true, named := ["math/bits.deBruijn64tab"], plainKeys := false, apart := false, laid := [("math/bits.deBruijn64tab", laid_math_bits_deBruijn64tab)], narrowed := true }
def ProdWalksUptoSaid : Prop := prodWalksUptoRow.holds Tryz.pinned (OpenSpec.upto prodWalksSpec)

/-- 'hacklelaw10.MiniBlocks', WHERE WHAT IT READS IS OF BULK AT MOST 1048576: true; the input reads as it did. -/
def miniBlocksUptoRow : OpenClaim := { program := "yteicokbnoonipaagreatdoor", sum := "eac93771909af1a415e65250df8817d8535976d96dff1ff3fc6a2021332b8c20", func := "hackle/hacklelaw10.MiniBlocks", spec := "miniBlocks", unfollowed := true, recurses := true, named := ["math/bits.deBruijn64tab"], plainKeys := false, apart := false, laid := [("math/bits.deBruijn64tab", laid_math_bits_deBruijn64tab)], narrowed := true }
def MiniBlocksUptoSaid : Prop := miniBlocksUptoRow.holds Tryz.pinned (OpenSpec.upto miniBlocksSpec)

/-- 'hacklelaw10.MiniMins', WHERE WHAT IT READS IS OF BULK AT MOST 1048576: true; the input reads as it did. -/
def miniMinsUptoRow : OpenClaim := { program := "yteicokbnoonipaagreatdoor", sum := "eac93771909af1a415e65250df8817d8535976d96dff1ff3fc6a2021332b8c20", func := "hackle/hacklelaw10.MiniMins", spec := "miniMins", unfollowed := true, recurses := true, named := ["math/bits.deBruijn64tab"], plainKeys := false, apart := false, laid := [("math/bits.deBruijn64tab", laid_math_bits_deBruijn64tab)], narrowed := true }
def MiniMinsUptoSaid : Prop := miniMinsUptoRow.holds Tryz.pinned (OpenSpec.upto miniMinsSpec)

/-- 'hacklelaw10.MiniApart', WHERE WHAT IT READS IS OF BULK AT MOST 1048576: true; the input reads as it did. -/
def miniApartUptoRow : OpenClaim := { program := "yteicokbnoonipaagreatdoor", sum := "eac93771909af1a415e65250df8817d8535976d96dff1ff3fc6a2021332b8c20", func := "hackle/hacklelaw10.MiniApart", spec := "miniApart", unfollowed := true, recurses := true, named := ["math/bits.deBruijn64tab"], plainKeys := false, apart := false, laid := [("math/bits.deBruijn64tab", laid_math_bits_deBruijn64tab)], narrowed := true }
def MiniApartUptoSaid : Prop := miniApartUptoRow.holds Tryz.pinned (OpenSpec.upto miniApartSpec)

/-- 'hacklelaw10.MiniRules', WHERE WHAT IT READS IS OF BULK AT MOST 1048576: true; the input reads as it did. -/
def miniRulesUptoRow : OpenClaim := { program := "yteicokbnoonipaagreatdoor", sum := "eac93771909af1a415e65250df8817d8535976d96dff1ff3fc6a2021332b8c20", func := "hackle/hacklelaw10.MiniRules", spec := "miniRules", unfollowed := true, recurses := true, named := ["math/bits.deBruijn64tab"], loops := true, plainKeys := false, apart := false, laid := [("math/bits.deBruijn64tab", laid_math_bits_deBruijn64tab)], narrowed := true }
def MiniRulesUptoSaid : Prop := miniRulesUptoRow.holds Tryz.pinned (OpenSpec.upto miniRulesSpec)

/-- 'hacklelaw10.MiniKeeps', WHERE WHAT IT READS IS OF BULK AT MOST 1048576: true; the input reads as it did. -/
def miniKeepsUptoRow : OpenClaim := { program := "yteicokbnoonipaagreatdoor", sum := "eac93771909af1a415e65250df8817d8535976d96dff1ff3fc6a2021332b8c20", func := "hackle/hacklelaw10.MiniKeeps", spec := "miniKeeps", unfollowed := true, recurses := true, named := ["math/bits.deBruijn64tab"], plainKeys := false, apart := false, laid := [("math/bits.deBruijn64tab", laid_math_bits_deBruijn64tab)], narrowed := true }
def MiniKeepsUptoSaid : Prop := miniKeepsUptoRow.holds Tryz.pinned (OpenSpec.upto miniKeepsSpec)

/-- 'hacklelaw10.MiniEqual', WHERE WHAT IT READS IS OF BULK AT MOST 1048576: true; the input reads as it did. -/
def miniEqualUptoRow : OpenClaim := { program := "yteicokbnoonipaagreatdoor", sum := "eac93771909af1a415e65250df8817d8535976d96dff1ff3fc6a2021332b8c20", func := "hackle/hacklelaw10.MiniEqual", spec := "miniEqual", unfollowed := true, recurses := true, named := ["math/bits.deBruijn64tab"], plainKeys := false, apart := false, laid := [("math/bits.deBruijn64tab", laid_math_bits_deBruijn64tab)], narrowed := true }
def MiniEqualUptoSaid : Prop := miniEqualUptoRow.holds Tryz.pinned (OpenSpec.upto miniEqualSpec)

/-- 'hacklelaw11.TableMakes', WHERE WHAT IT READS IS OF BULK AT MOST 1048576: true; the input reads as it did. -/
def tableMakesUptoRow : OpenClaim := { program := "yteicokbnoonipaagreatdoor", sum := "eac93771909af1a415e65250df8817d8535976d96dff1ff3fc6a2021332b8c20", func := "hackle/hacklelaw11.TableMakes", spec := "tableMakes", unfollowed := true, recurses := true, named := ["math/bits.deBruijn64tab"], loops := true, plainKeys := false, apart := false, laid := [("math/bits.deBruijn64tab", laid_math_bits_deBruijn64tab)], narrowed := true }
def TableMakesUptoSaid : Prop := tableMakesUptoRow.holds Tryz.pinned (OpenSpec.upto tableMakesSpec)

/-- 'hacklelaw11.TableOf', WHERE WHAT IT READS IS OF BULK AT MOST 1048576: true; the input reads as it did. -/
def tableOfUptoRow : OpenClaim := { program := "yteicokbnoonipaagreatdoor", sum := "eac93771909af1a415e65250df8817d8535976d96dff1ff3fc6a2021332b8c20", func := "hackle/hacklelaw11.TableOf", spec := "tableOf", unfollowed := true, recurses := true, named := ["math/bits.deBruijn64tab"], plainKeys := false, apart := false, laid := [("math/bits.deBruijn64tab", laid_math_bits_deBruijn64tab)], narrowed := true }
def TableOfUptoSaid : Prop := tableOfUptoRow.holds Tryz.pinned (OpenSpec.upto tableOfSpec)

/-- 'hacklelaw11.TableMatches', WHERE WHAT IT READS IS OF BULK AT MOST 1048576: true; the input reads as it did. -/
def tableMatchesUptoRow : OpenClaim := { program := "yteicokbnoonipaagreatdoor", sum := "eac93771909af1a415e65250df8817d8535976d96dff1ff3fc6a2021332b8c20", func := "hackle/hacklelaw11.TableMatches", spec := "tableMatches", unfollowed := true, recurses := true, named := ["math/bits.deBruijn64tab"], plainKeys := false, apart := false, laid := [("math/bits.deBruijn64tab", laid_math_bits_deBruijn64tab)], narrowed := true }
def TableMatchesUptoSaid : Prop := tableMatchesUptoRow.holds Tryz.pinned (OpenSpec.upto tableMatchesSpec)

/-- 'hacklelaw11.TableRules', WHERE WHAT IT READS IS OF BULK AT MOST 1048576: true; the input reads as it did. -/
def tableRulesUptoRow : OpenClaim := { program := "yteicokbnoonipaagreatdoor", sum := "eac93771909af1a415e65250df8817d8535976d96dff1ff3fc6a2021332b8c20", func := "hackle/hacklelaw11.TableRules", spec := "tableRules", unfollowed := true, recurses := true, named := ["math/bits.deBruijn64tab"], loops := true, plainKeys := false, apart := false, laid := [("math/bits.deBruijn64tab", laid_math_bits_deBruijn64tab)], narrowed := true }
def TableRulesUptoSaid : Prop := tableRulesUptoRow.holds Tryz.pinned (OpenSpec.upto tableRulesSpec)

/-- 'hacklelaw11.TableTexts', WHERE WHAT IT READS IS OF BULK AT MOST 1048576: true; the input reads as it did. -/
def tableTextsUptoRow : OpenClaim := { program := "yteicokbnoonipaagreatdoor", sum := "eac93771909af1a415e65250df8817d8535976d96dff1ff3fc6a2021332b8c20", func := "hackle/hacklelaw11.TableTexts", spec := "tableTexts", unfollowed := true, recurses := true, named := ["math/bits.deBruijn64tab"], plainKeys := false, apart := false, laid := [("math/bits.deBruijn64tab", laid_math_bits_deBruijn64tab)], narrowed := true }
def TableTextsUptoSaid : Prop := tableTextsUptoRow.holds Tryz.pinned (OpenSpec.upto tableTextsSpec)

/-- 'hacklelaw12.ProdAlike', WHERE WHAT IT READS IS OF BULK AT MOST 1048576: true; the input reads as it did. -/
def prodAlikeUptoRow : OpenClaim := { program := "yteicokbnoonipaagreatdoor", sum := "eac93771909af1a415e65250df8817d8535976d96dff1ff3fc6a2021332b8c20", func := "hackle/hacklelaw12.ProdAlike", spec := "prodAlike", unfollowed := true, recurses := true, named := ["math/bits.deBruijn64tab"], plainKeys := false, apart := false, laid := [("math/bits.deBruijn64tab", laid_math_bits_deBruijn64tab)], narrowed := true }
def ProdAlikeUptoSaid : Prop := prodAlikeUptoRow.holds Tryz.pinned (OpenSpec.upto prodAlikeSpec)

end Rows
end Go.Proofs.YteicokbnoonipaaGreatDoor
