/-
  DERIVED. GIVEN WITH THE SEED: THE CARDS: each row of YtjlkahkehnakfaaGreatDoorRows.lean that lists a variable, with what it lists TIED to the program's text (the seventh form; the later family's looks); each row that meets fmt, with fmt's text TOLD by the authors' own Lean function (tested against real Go, not proved from fmt's source: count such statements apart). THE CARD IS WHAT COUNTS. Prove the row's statement (the work); the ties are given (YtjlkahkehnakfaaGreatDoorTie.lean); close each card by the builder's one call (the guide's Derived/Test/ToyasCard.lean, 'card_holds'). Laid BY PROGRAM, IN A SANDBOX (cutbox-door.mjs). By AI agents, Wed Nov 11 2026. No macro, syntax, notation, axiom, sorry.
-/
import Derived.Test.YtjlkahkehnakfaaGreatDoorRows
import GoSem.ClaimSeven
namespace Go.Proofs.YtjlkahkehnakfaaGreatDoor
namespace Rows

/-- THE TIED CARD OF 'bobbinetlaw.UrlSafes'. -/
def urlSafesCard : Claim7 := { stood := { row := urlSafesRow, standIns := [], harness := (true, "24ce8cb193f3489e856324db52f13076321b66fb1791b9750919498d034ba827"), looks := true }, kinds := [], alts := [], laidByText := true, laidKinds := [.data, .pinned], laidTests := true, laidLooks := .later }
def UrlSafesCardSaid : Prop := Claim7.holds Tryz.pinned (.plain (OpenSpec.ofChange urlSafesSpec)) urlSafesCard

/-- THE TIED CARD OF 'bobbinetlaw.RulesLinks'. -/
def rulesLinksCard : Claim7 := { stood := { row := rulesLinksRow, standIns := [], harness := (true, "24ce8cb193f3489e856324db52f13076321b66fb1791b9750919498d034ba827"), looks := true }, kinds := [], alts := [], laidByText := true, laidKinds := [.data, .pinned], laidTests := true, laidLooks := .later }
def RulesLinksCardSaid : Prop := Claim7.holds Tryz.pinned (.plain (OpenSpec.ofChange rulesLinksSpec)) rulesLinksCard

/-- THE SECOND FORM's CARD OF 'bobbinetlaw.UrlSafes'. -/
def urlSafesUptoCard : Claim7 := { stood := { row := urlSafesUptoRow, standIns := [], harness := (true, "24ce8cb193f3489e856324db52f13076321b66fb1791b9750919498d034ba827"), looks := true }, kinds := [], alts := [], laidByText := true, laidKinds := [.data, .pinned], laidTests := true, laidLooks := .later }
def UrlSafesUptoCardSaid : Prop := Claim7.holds Tryz.pinned (.plain (OpenSpec.upto urlSafesSpec)) urlSafesUptoCard

/-- THE SECOND FORM's CARD OF 'bobbinetlaw.RulesLinks'. -/
def rulesLinksUptoCard : Claim7 := { stood := { row := rulesLinksUptoRow, standIns := [], harness := (true, "24ce8cb193f3489e856324db52f13076321b66fb1791b9750919498d034ba827"), looks := true }, kinds := [], alts := [], laidByText := true, laidKinds := [.data, .pinned], laidTests := true, laidLooks := .later }
def RulesLinksUptoCardSaid : Prop := Claim7.holds Tryz.pinned (.plain (OpenSpec.upto rulesLinksSpec)) rulesLinksUptoCard
end Rows
end Go.Proofs.YtjlkahkehnakfaaGreatDoor
