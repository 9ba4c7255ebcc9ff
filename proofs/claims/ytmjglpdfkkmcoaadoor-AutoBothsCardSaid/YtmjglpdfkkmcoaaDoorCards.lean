/-
  DERIVED. GIVEN WITH THE SEED: THE CARDS: each row of YtmjglpdfkkmcoaaDoorRows.lean that lists a variable, with what it lists TIED to the program's text (the seventh form; the later family's looks); each row that meets fmt, with fmt's text TOLD by the authors' own Lean function (tested against real Go, not proved from fmt's source: count such statements apart). THE CARD IS WHAT COUNTS. Prove the row's statement (the work); the ties are given (YtmjglpdfkkmcoaaDoorTie.lean); close each card by the builder's one call (the guide's Derived/Test/ToyasCard.lean, 'card_holds'). Laid BY PROGRAM, IN A SANDBOX (cutbox-door.mjs). By AI agents, Wed Nov 11 2026. No macro, syntax, notation, axiom, sorry.
-/
import Derived.Test.YtmjglpdfkkmcoaaDoorRows
import GoSem.ClaimSeven
namespace Go.Proofs.YtmjglpdfkkmcoaaDoor
namespace Rows

/-- THE TIED CARD OF 'bobbinetlaw.TreeBuilds'. -/
def treeBuildsCard : Claim7 := { stood := { row := treeBuildsRow, standIns := [], harness := (true, "a7899304926acb64250d46c14d8d872ed990a7378a337ead8432e528241babda"), looks := false }, kinds := [], alts := [], laidByText := true, laidKinds := [.widerDeep, .widerDeep], laidTests := true, laidLooks := .later }
def TreeBuildsCardSaid : Prop := Claim7.holds Tryd.pinned (.plain (OpenSpec.ofChange treeBuildsSpec)) treeBuildsCard

/-- THE TIED CARD OF 'bobbinetlaw.AutoBoths'. -/
def autoBothsCard : Claim7 := { stood := { row := autoBothsRow, standIns := [], harness := (true, "a7899304926acb64250d46c14d8d872ed990a7378a337ead8432e528241babda"), looks := false }, kinds := [], alts := [], laidByText := true, laidKinds := [.data, .data, .data], laidTests := true, laidLooks := .later }
def AutoBothsCardSaid : Prop := Claim7.holds Tryd.pinned (.plain (OpenSpec.ofChange autoBothsSpec)) autoBothsCard

/-- THE SECOND FORM's CARD OF 'bobbinetlaw.TreeBuilds'. -/
def treeBuildsUptoCard : Claim7 := { stood := { row := treeBuildsUptoRow, standIns := [], harness := (true, "a7899304926acb64250d46c14d8d872ed990a7378a337ead8432e528241babda"), looks := false }, kinds := [], alts := [], laidByText := true, laidKinds := [.widerDeep, .widerDeep], laidTests := true, laidLooks := .later }
def TreeBuildsUptoCardSaid : Prop := Claim7.holds Tryd.pinned (.plain (OpenSpec.upto treeBuildsSpec)) treeBuildsUptoCard

/-- THE SECOND FORM's CARD OF 'bobbinetlaw.AutoBoths'. -/
def autoBothsUptoCard : Claim7 := { stood := { row := autoBothsUptoRow, standIns := [], harness := (true, "a7899304926acb64250d46c14d8d872ed990a7378a337ead8432e528241babda"), looks := false }, kinds := [], alts := [], laidByText := true, laidKinds := [.data, .data, .data], laidTests := true, laidLooks := .later }
def AutoBothsUptoCardSaid : Prop := Claim7.holds Tryd.pinned (.plain (OpenSpec.upto autoBothsSpec)) autoBothsUptoCard
end Rows
end Go.Proofs.YtmjglpdfkkmcoaaDoor
