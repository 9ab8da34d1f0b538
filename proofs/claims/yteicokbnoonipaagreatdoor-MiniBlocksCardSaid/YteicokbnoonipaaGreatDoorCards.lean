/-
  DERIVED. GIVEN WITH THE SEED: THE CARDS: each row of YteicokbnoonipaaGreatDoorRows.lean that lists a variable, with what it lists TIED to the program's text (the seventh form; the later family's looks); each row that meets fmt, with fmt's text TOLD by the authors' own Lean function (tested against real Go, not proved from fmt's source: count such statements apart). THE CARD IS WHAT COUNTS. Prove the row's statement (the work); the ties are given (YteicokbnoonipaaGreatDoorTie.lean); close each card by the builder's one call (the guide's Derived/Test/ToyasCard.lean, 'card_holds'). Laid BY PROGRAM, IN A SANDBOX (cutbox-door.mjs). By AI agents, Wed Nov 11 2026. No macro, syntax, notation, axiom, sorry.
-/
import Derived.Test.YteicokbnoonipaaGreatDoorRows
import GoSem.ClaimSeven
namespace Go.Proofs.YteicokbnoonipaaGreatDoor
namespace Rows

/-- THE TIED CARD OF 'hacklelaw12.ProdOver'. -/
def prodOverCard : Claim7 := { stood := { row := prodOverRow, standIns := [], harness := (true, "ceb67ea439b6740fd9bc61e45ada2172f6a3c7d6b85cb12d056de46e6c91e81b"), looks := true }, kinds := [], alts := [], laidByText := true, laidKinds := [.data], laidTests := true, laidLooks := .later }
def ProdOverCardSaid : Prop := Claim7.holds Tryz.pinned (.plain (OpenSpec.ofChange prodOverSpec)) prodOverCard

/-- THE TIED CARD OF 'hacklelaw12.ProdFinds'. -/
def prodFindsCard : Claim7 := { stood := { row := prodFindsRow, standIns := [], harness := (true, "ceb67ea439b6740fd9bc61e45ada2172f6a3c7d6b85cb12d056de46e6c91e81b"), looks := true }, kinds := [], alts := [], laidByText := true, laidKinds := [.data], laidTests := true, laidLooks := .later }
def ProdFindsCardSaid : Prop := Claim7.holds Tryz.pinned (.plain (OpenSpec.ofChange prodFindsSpec)) prodFindsCard

/-- THE TIED CARD OF 'hacklelaw12.ProdWalks'. -/
def prodWalksCard : Claim7 := { stood := { row := prodWalksRow, standIns := [], harness := (true, "ceb67ea439b6740fd9bc61e45ada2172f6a3c7d6b85cb12d056de46e6c91e81b"), looks := true }, kinds := [], alts := [], laidByText := true, laidKinds := [.data], laidTests := true, laidLooks := .later }
def ProdWalksCardSaid : Prop := Claim7.holds Tryz.pinned (.plain (OpenSpec.ofChange prodWalksSpec)) prodWalksCard

/-- THE TIED CARD OF 'hacklelaw10.MiniBlocks'. -/
def miniBlocksCard : Claim7 := { stood := { row := miniBlocksRow, standIns := [], harness := (true, "ceb67ea439b6740fd9bc61e45ada2172f6a3c7d6b85cb12d056de46e6c91e81b"), looks := true }, kinds := [], alts := [], laidByText := true, laidKinds := [.data], laidTests := true, laidLooks := .later }
def MiniBlocksCardSaid : Prop := Claim7.holds Tryz.pinned (.plain (OpenSpec.ofChange miniBlocksSpec)) miniBlocksCard

/-- THE TIED CARD OF 'hacklelaw10.MiniMins'. -/
def miniMinsCard : Claim7 := { stood := { row := miniMinsRow, standIns := [], harness := (true, "ceb67ea439b6740fd9bc61e45ada2172f6a3c7d6b85cb12d056de46e6c91e81b"), looks := true }, kinds := [], alts := [], laidByText := true, laidKinds := [.data], laidTests := true, laidLooks := .later }
def MiniMinsCardSaid : Prop := Claim7.holds Tryz.pinned (.plain (OpenSpec.ofChange miniMinsSpec)) miniMinsCard

/-- THE TIED CARD OF 'hacklelaw10.MiniApart'. -/
def miniApartCard : Claim7 := { stood := { row := miniApartRow, standIns := [], harness := (true, "ceb67ea439b6740fd9bc61e45ada2172f6a3c7d6b85cb12d056de46e6c91e81b"), looks := true }, kinds := [], alts := [], laidByText := true, laidKinds := [.data], laidTests := true, laidLooks := .later }
def MiniApartCardSaid : Prop := Claim7.holds Tryz.pinned (.plain (OpenSpec.ofChange miniApartSpec)) miniApartCard

/-- THE TIED CARD OF 'hacklelaw10.MiniRules'. -/
def miniRulesCard : Claim7 := { stood := { row := miniRulesRow, standIns := [], harness := (true, "ceb67ea439b6740fd9bc61e45ada2172f6a3c7d6b85cb12d056de46e6c91e81b"), looks := true }, kinds := [], alts := [], laidByText := true, laidKinds := [.data], laidTests := true, laidLooks := .later }
def MiniRulesCardSaid : Prop := Claim7.holds Tryz.pinned (.plain (OpenSpec.ofChange miniRulesSpec)) miniRulesCard

/-- THE TIED CARD OF 'hacklelaw10.MiniKeeps'. -/
def miniKeepsCard : Claim7 := { stood := { row := miniKeepsRow, standIns := [], harness := (true, "ceb67ea439b6740fd9bc61e45ada2172f6a3c7d6b85cb12d056de46e6c91e81b"), looks := true }, kinds := [], alts := [], laidByText := true, laidKinds := [.data], laidTests := true, laidLooks := .later }
def MiniKeepsCardSaid : Prop := Claim7.holds Tryz.pinned (.plain (OpenSpec.ofChange miniKeepsSpec)) miniKeepsCard

/-- THE TIED CARD OF 'hacklelaw10.MiniEqual'. -/
def miniEqualCard : Claim7 := { stood := { row := miniEqualRow, standIns := [], harness := (true, "ceb67ea439b6740fd9bc61e45ada2172f6a3c7d6b85cb12d056de46e6c91e81b"), looks := true }, kinds := [], alts := [], laidByText := true, laidKinds := [.data], laidTests := true, laidLooks := .later }
def MiniEqualCardSaid : Prop := Claim7.holds Tryz.pinned (.plain (OpenSpec.ofChange miniEqualSpec)) miniEqualCard

/-- THE TIED CARD OF 'hacklelaw11.TableMakes'. -/
def tableMakesCard : Claim7 := { stood := { row := tableMakesRow, standIns := [], harness := (true, "ceb67ea439b6740fd9bc61e45ada2172f6a3c7d6b85cb12d056de46e6c91e81b"), looks := true }, kinds := [], alts := [], laidByText := true, laidKinds := [.data], laidTests := true, laidLooks := .later }
def TableMakesCardSaid : Prop := Claim7.holds Tryz.pinned (.plain (OpenSpec.ofChange tableMakesSpec)) tableMakesCard

/-- THE TIED CARD OF 'hacklelaw11.TableOf'. -/
def tableOfCard : Claim7 := { stood := { row := tableOfRow, standIns := [], harness := (true, "ceb67ea439b6740fd9bc61e45ada2172f6a3c7d6b85cb12d056de46e6c91e81b"), looks := true }, kinds := [], alts := [], laidByText := true, laidKinds := [.data], laidTests := true, laidLooks := .later }
def TableOfCardSaid : Prop := Claim7.holds Tryz.pinned (.plain (OpenSpec.ofChange tableOfSpec)) tableOfCard

/-- THE TIED CARD OF 'hacklelaw11.TableMatches'. -/
def tableMatchesCard : Claim7 := { stood := { row := tableMatchesRow, standIns := [], harness := (true, "ceb67ea439b6740fd9bc61e45ada2172f6a3c7d6b85cb12d056de46e6c91e81b"), looks := true }, kinds := [], alts := [], laidByText := true, laidKinds := [.data], laidTests := true, laidLooks := .later }
def TableMatchesCardSaid : Prop := Claim7.holds Tryz.pinned (.plain (OpenSpec.ofChange tableMatchesSpec)) tableMatchesCard

/-- THE TIED CARD OF 'hacklelaw11.TableRules'. -/
def tableRulesCard : Claim7 := { stood := { row := tableRulesRow, standIns := [], harness := (true, "ceb67ea439b6740fd9bc61e45ada2172f6a3c7d6b85cb12d056de46e6c91e81b"), looks := true }, kinds := [], alts := [], laidByText := true, laidKinds := [.data], laidTests := true, laidLooks := .later }
def TableRulesCardSaid : Prop := Claim7.holds Tryz.pinned (.plain (OpenSpec.ofChange tableRulesSpec)) tableRulesCard

/-- THE TIED CARD OF 'hacklelaw11.TableTexts'. -/
def tableTextsCard : Claim7 := { stood := { row := tableTextsRow, standIns := [], harness := (true, "ceb67ea439b6740fd9bc61e45ada2172f6a3c7d6b85cb12d056de46e6c91e81b"), looks := true }, kinds := [], alts := [], laidByText := true, laidKinds := [.data], laidTests := true, laidLooks := .later }
def TableTextsCardSaid : Prop := Claim7.holds Tryz.pinned (.plain (OpenSpec.ofChange tableTextsSpec)) tableTextsCard

/-- THE TIED CARD OF 'hacklelaw12.ProdAlike'. -/
def prodAlikeCard : Claim7 := { stood := { row := prodAlikeRow, standIns := [], harness := (true, "ceb67ea439b6740fd9bc61e45ada2172f6a3c7d6b85cb12d056de46e6c91e81b"), looks := true }, kinds := [], alts := [], laidByText := true, laidKinds := [.data], laidTests := true, laidLooks := .later }
def ProdAlikeCardSaid : Prop := Claim7.holds Tryz.pinned (.plain (OpenSpec.ofChange prodAlikeSpec)) prodAlikeCard

/-- THE SECOND FORM's CARD OF 'hacklelaw12.ProdOver'. -/
def prodOverUptoCard : Claim7 := { stood := { row := prodOverUptoRow, standIns := [], harness := (true, "ceb67ea439b6740fd9bc61e45ada2172f6a3c7d6b85cb12d056de46e6c91e81b"), looks := true }, kinds := [], alts := [], laidByText := true, laidKinds := [.data], laidTests := true, laidLooks := .later }
def ProdOverUptoCardSaid : Prop := Claim7.holds Tryz.pinned (.plain (OpenSpec.upto prodOverSpec)) prodOverUptoCard

/-- THE SECOND FORM's CARD OF 'hacklelaw12.ProdFinds'. -/
def prodFindsUptoCard : Claim7 := { stood := { row := prodFindsUptoRow, standIns := [], harness := (true, "ceb67ea439b6740fd9bc61e45ada2172f6a3c7d6b85cb12d056de46e6c91e81b"), looks := true }, kinds := [], alts := [], laidByText := true, laidKinds := [.data], laidTests := true, laidLooks := .later }
def ProdFindsUptoCardSaid : Prop := Claim7.holds Tryz.pinned (.plain (OpenSpec.upto prodFindsSpec)) prodFindsUptoCard

/-- THE SECOND FORM's CARD OF 'hacklelaw12.ProdWalks'. -/
def prodWalksUptoCard : Claim7 := { stood := { row := prodWalksUptoRow, standIns := [], harness := (true, "ceb67ea439b6740fd9bc61e45ada2172f6a3c7d6b85cb12d056de46e6c91e81b"), looks := true }, kinds := [], alts := [], laidByText := true, laidKinds := [.data], laidTests := true, laidLooks := .later }
def ProdWalksUptoCardSaid : Prop := Claim7.holds Tryz.pinned (.plain (OpenSpec.upto prodWalksSpec)) prodWalksUptoCard

/-- THE SECOND FORM's CARD OF 'hacklelaw10.MiniBlocks'. -/
def miniBlocksUptoCard : Claim7 := { stood := { row := miniBlocksUptoRow, standIns := [], harness := (true, "ceb67ea439b6740fd9bc61e45ada2172f6a3c7d6b85cb12d056de46e6c91e81b"), looks := true }, kinds := [], alts := [], laidByText := true, laidKinds := [.data], laidTests := true, laidLooks := .later }
def MiniBlocksUptoCardSaid : Prop := Claim7.holds Tryz.pinned (.plain (OpenSpec.upto miniBlocksSpec)) miniBlocksUptoCard

/-- THE SECOND FORM's CARD OF 'hacklelaw10.MiniMins'. -/
def miniMinsUptoCard : Claim7 := { stood := { row := miniMinsUptoRow, standIns := [], harness := (true, "ceb67ea439b6740fd9bc61e45ada2172f6a3c7d6b85cb12d056de46e6c91e81b"), looks := true }, kinds := [], alts := [], laidByText := true, laidKinds := [.data], laidTests := true, laidLooks := .later }
def MiniMinsUptoCardSaid : Prop := Claim7.holds Tryz.pinned (.plain (OpenSpec.upto miniMinsSpec)) miniMinsUptoCard

/-- THE SECOND FORM's CARD OF 'hacklelaw10.MiniApart'. -/
def miniApartUptoCard : Claim7 := { stood := { row := miniApartUptoRow, standIns := [], harness := (true, "ceb67ea439b6740fd9bc61e45ada2172f6a3c7d6b85cb12d056de46e6c91e81b"), looks := true }, kinds := [], alts := [], laidByText := true, laidKinds := [.data], laidTests := true, laidLooks := .later }
def MiniApartUptoCardSaid : Prop := Claim7.holds Tryz.pinned (.plain (OpenSpec.upto miniApartSpec)) miniApartUptoCard

/-- THE SECOND FORM's CARD OF 'hacklelaw10.MiniRules'. -/
def miniRulesUptoCard : Claim7 := { stood := { row := miniRulesUptoRow, standIns := [], harness := (true, "ceb67ea439b6740fd9bc61e45ada2172f6a3c7d6b85cb12d056de46e6c91e81b"), looks := true }, kinds := [], alts := [], laidByText := true, laidKinds := [.data], laidTests := true, laidLooks := .later }
def MiniRulesUptoCardSaid : Prop := Claim7.holds Tryz.pinned (.plain (OpenSpec.upto miniRulesSpec)) miniRulesUptoCard

/-- THE SECOND FORM's CARD OF 'hacklelaw10.MiniKeeps'. -/
def miniKeepsUptoCard : Claim7 := { stood := { row := miniKeepsUptoRow, standIns := [], harness := (true, "ceb67ea439b6740fd9bc61e45ada2172f6a3c7d6b85cb12d056de46e6c91e81b"), looks := true }, kinds := [], alts := [], laidByText := true, laidKinds := [.data], laidTests := true, laidLooks := .later }
def MiniKeepsUptoCardSaid : Prop := Claim7.holds Tryz.pinned (.plain (OpenSpec.upto miniKeepsSpec)) miniKeepsUptoCard

/-- THE SECOND FORM's CARD OF 'hacklelaw10.MiniEqual'. -/
def miniEqualUptoCard : Claim7 := { stood := { row := miniEqualUptoRow, standIns := [], harness := (true, "ceb67ea439b6740fd9bc61e45ada2172f6a3c7d6b85cb12d056de46e6c91e81b"), looks := true }, kinds := [], alts := [], laidByText := true, laidKinds := [.data], laidTests := true, laidLooks := .later }
def MiniEqualUptoCardSaid : Prop := Claim7.holds Tryz.pinned (.plain (OpenSpec.upto miniEqualSpec)) miniEqualUptoCard

/-- THE SECOND FORM's CARD OF 'hacklelaw11.TableMakes'. -/
def tableMakesUptoCard : Claim7 := { stood := { row := tableMakesUptoRow, standIns := [], harness := (true, "ceb67ea439b6740fd9bc61e45ada2172f6a3c7d6b85cb12d056de46e6c91e81b"), looks := true }, kinds := [], alts := [], laidByText := true, laidKinds := [.data], laidTests := true, laidLooks := .later }
def TableMakesUptoCardSaid : Prop := Claim7.holds Tryz.pinned (.plain (OpenSpec.upto tableMakesSpec)) tableMakesUptoCard

/-- THE SECOND FORM's CARD OF 'hacklelaw11.TableOf'. -/
def tableOfUptoCard : Claim7 := { stood := { row := tableOfUptoRow, standIns := [], harness := (true, "ceb67ea439b6740fd9bc61e45ada2172f6a3c7d6b85cb12d056de46e6c91e81b"), looks := true }, kinds := [], alts := [], laidByText := true, laidKinds := [.data], laidTests := true, laidLooks := .later }
def TableOfUptoCardSaid : Prop := Claim7.holds Tryz.pinned (.plain (OpenSpec.upto tableOfSpec)) tableOfUptoCard

/-- THE SECOND FORM's CARD OF 'hacklelaw11.TableMatches'. -/
def tableMatchesUptoCard : Claim7 := { stood := { row := tableMatchesUptoRow, standIns := [], harness := (true, "ceb67ea439b6740fd9bc61e45ada2172f6a3c7d6b85cb12d056de46e6c91e81b"), looks := true }, kinds := [], alts := [], laidByText := true, laidKinds := [.data], laidTests := true, laidLooks := .later }
def TableMatchesUptoCardSaid : Prop := Claim7.holds Tryz.pinned (.plain (OpenSpec.upto tableMatchesSpec)) tableMatchesUptoCard

/-- THE SECOND FORM's CARD OF 'hacklelaw11.TableRules'. -/
def tableRulesUptoCard : Claim7 := { stood := { row := tableRulesUptoRow, standIns := [], harness := (true, "ceb67ea439b6740fd9bc61e45ada2172f6a3c7d6b85cb12d056de46e6c91e81b"), looks := true }, kinds := [], alts := [], laidByText := true, laidKinds := [.data], laidTests := true, laidLooks := .later }
def TableRulesUptoCardSaid : Prop := Claim7.holds Tryz.pinned (.plain (OpenSpec.upto tableRulesSpec)) tableRulesUptoCard

/-- THE SECOND FORM's CARD OF 'hacklelaw11.TableTexts'. -/
def tableTextsUptoCard : Claim7 := { stood := { row := tableTextsUptoRow, standIns := [], harness := (true, "ceb67ea439b6740fd9bc61e45ada2172f6a3c7d6b85cb12d056de46e6c91e81b"), looks := true }, kinds := [], alts := [], laidByText := true, laidKinds := [.data], laidTests := true, laidLooks := .later }
def TableTextsUptoCardSaid : Prop := Claim7.holds Tryz.pinned (.plain (OpenSpec.upto tableTextsSpec)) tableTextsUptoCard

/-- THE SECOND FORM's CARD OF 'hacklelaw12.ProdAlike'. -/
def prodAlikeUptoCard : Claim7 := { stood := { row := prodAlikeUptoRow, standIns := [], harness := (true, "ceb67ea439b6740fd9bc61e45ada2172f6a3c7d6b85cb12d056de46e6c91e81b"), looks := true }, kinds := [], alts := [], laidByText := true, laidKinds := [.data], laidTests := true, laidLooks := .later }
def ProdAlikeUptoCardSaid : Prop := Claim7.holds Tryz.pinned (.plain (OpenSpec.upto prodAlikeSpec)) prodAlikeUptoCard
end Rows
end Go.Proofs.YteicokbnoonipaaGreatDoor
