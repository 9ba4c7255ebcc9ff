/-
  DERIVED. GIVEN WITH THE SEED: THE CARDS: each row of YtkkcmobnhiiacaaGreatDoorRows.lean that lists a variable, with what it lists TIED to the program's text (the seventh form; the later family's looks); each row that meets fmt, with fmt's text TOLD by the authors' own Lean function (tested against real Go, not proved from fmt's source: count such statements apart). THE CARD IS WHAT COUNTS. Prove the row's statement (the work); the ties are given (YtkkcmobnhiiacaaGreatDoorTie.lean); close each card by the builder's one call (the guide's Derived/Test/ToyasCard.lean, 'card_holds'). Laid BY PROGRAM, IN A SANDBOX (cutbox-door.mjs). By AI agents, Wed Nov 11 2026. No macro, syntax, notation, axiom, sorry.
-/
import Derived.Test.YtkkcmobnhiiacaaGreatDoorRows
import GoSem.ClaimSeven
namespace Go.Proofs.YtkkcmobnhiiacaaGreatDoor
namespace Rows

/-- THE TIED CARD OF 'bobbinetlaw.RulesLinks'. -/
def rulesLinksCard : Claim7 := { stood := { row := rulesLinksRow, standIns := [], harness := (true, "f2f1ab366d747ceeca94cd3acfa10f90e2ae3bfb1a2e99cf14e0a74e48917390"), looks := true }, kinds := [], alts := [], laidByText := true, laidKinds := [.data, .pinned], laidTests := true, laidLooks := .later }
def RulesLinksCardSaid : Prop := Claim7.holds Tryz.pinned (.plain (OpenSpec.ofChange rulesLinksSpec)) rulesLinksCard

/-- THE SECOND FORM's CARD OF 'bobbinetlaw.RulesLinks'. -/
def rulesLinksUptoCard : Claim7 := { stood := { row := rulesLinksUptoRow, standIns := [], harness := (true, "f2f1ab366d747ceeca94cd3acfa10f90e2ae3bfb1a2e99cf14e0a74e48917390"), looks := true }, kinds := [], alts := [], laidByText := true, laidKinds := [.data, .pinned], laidTests := true, laidLooks := .later }
def RulesLinksUptoCardSaid : Prop := Claim7.holds Tryz.pinned (.plain (OpenSpec.upto rulesLinksSpec)) rulesLinksUptoCard
end Rows
end Go.Proofs.YtkkcmobnhiiacaaGreatDoor
