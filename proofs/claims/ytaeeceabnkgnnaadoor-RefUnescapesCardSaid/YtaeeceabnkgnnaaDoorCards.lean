/-
  DERIVED. GIVEN WITH THE SEED: THE CARDS: each row of YtaeeceabnkgnnaaDoorRows.lean that lists a variable, with what it lists TIED to the program's text (the seventh form; the later family's looks); each row that meets fmt, with fmt's text TOLD by the authors' own Lean function (tested against real Go, not proved from fmt's source: count such statements apart). THE CARD IS WHAT COUNTS. Prove the row's statement (the work); the ties are given (YtaeeceabnkgnnaaDoorTie.lean); close each card by the builder's one call (the guide's Derived/Test/ToyasCard.lean, 'card_holds'). Laid BY PROGRAM, IN A SANDBOX (cutbox-door.mjs). By AI agents, Wed Nov 11 2026. No macro, syntax, notation, axiom, sorry.
-/
import Derived.Test.YtaeeceabnkgnnaaDoorRows
import GoSem.ClaimSeven
namespace Go.Proofs.YtaeeceabnkgnnaaDoor
namespace Rows

/-- THE TIED CARD OF 'bobbinetlaw.StyleParses'. -/
def styleParsesCard : Claim7 := { stood := { row := styleParsesRow, standIns := [], harness := (true, "e4e3b0782b4a6ee26a786b6c52e15713f0d25f39e227244fc5653d01f83727d1"), looks := true }, kinds := [], alts := [], laidByText := true, laidKinds := [.data, .pinned], laidTests := true, laidLooks := .later }
def StyleParsesCardSaid : Prop := Claim7.holds Tryd.pinned (.plain (OpenSpec.ofChange styleParsesSpec)) styleParsesCard

/-- THE TIED CARD OF 'bobbinetlaw.StyleTexts'. -/
def styleTextsCard : Claim7 := { stood := { row := styleTextsRow, standIns := [], harness := (true, "e4e3b0782b4a6ee26a786b6c52e15713f0d25f39e227244fc5653d01f83727d1"), looks := true }, kinds := [], alts := [], laidByText := true, laidKinds := [.data, .pinned], laidTests := true, laidLooks := .later }
def StyleTextsCardSaid : Prop := Claim7.holds Tryd.pinned (.plain (OpenSpec.ofChange styleTextsSpec)) styleTextsCard

/-- THE TIED CARD OF 'bobbinetlaw.UrlStrips'. -/
def urlStripsCard : Claim7 := { stood := { row := urlStripsRow, standIns := [], harness := (true, "e4e3b0782b4a6ee26a786b6c52e15713f0d25f39e227244fc5653d01f83727d1"), looks := true }, kinds := [], alts := [], laidByText := true, laidKinds := [.data, .pinned], laidTests := true, laidLooks := .later }
def UrlStripsCardSaid : Prop := Claim7.holds Tryd.pinned (.plain (OpenSpec.ofChange urlStripsSpec)) urlStripsCard

/-- THE TIED CARD OF 'bobbinetlaw.UrlSchemes'. -/
def urlSchemesCard : Claim7 := { stood := { row := urlSchemesRow, standIns := [], harness := (true, "e4e3b0782b4a6ee26a786b6c52e15713f0d25f39e227244fc5653d01f83727d1"), looks := true }, kinds := [], alts := [], laidByText := true, laidKinds := [.data, .pinned], laidTests := true, laidLooks := .later }
def UrlSchemesCardSaid : Prop := Claim7.holds Tryd.pinned (.plain (OpenSpec.ofChange urlSchemesSpec)) urlSchemesCard

/-- THE TIED CARD OF 'bobbinetlaw.RefUnescapes'. -/
def refUnescapesCard : Claim7 := { stood := { row := refUnescapesRow, standIns := [], harness := (true, "e4e3b0782b4a6ee26a786b6c52e15713f0d25f39e227244fc5653d01f83727d1"), looks := true }, kinds := [], alts := [], laidByText := true, laidKinds := [.data, .data, .data, .sentinel, .sentinel], laidTests := true, laidLooks := .later }
def RefUnescapesCardSaid : Prop := Claim7.holds Tryd.pinned (.plain (OpenSpec.ofChange refUnescapesSpec)) refUnescapesCard

/-- THE SECOND FORM's CARD OF 'bobbinetlaw.StyleParses'. -/
def styleParsesUptoCard : Claim7 := { stood := { row := styleParsesUptoRow, standIns := [], harness := (true, "e4e3b0782b4a6ee26a786b6c52e15713f0d25f39e227244fc5653d01f83727d1"), looks := true }, kinds := [], alts := [], laidByText := true, laidKinds := [.data, .pinned], laidTests := true, laidLooks := .later }
def StyleParsesUptoCardSaid : Prop := Claim7.holds Tryd.pinned (.plain (OpenSpec.upto styleParsesSpec)) styleParsesUptoCard

/-- THE SECOND FORM's CARD OF 'bobbinetlaw.StyleTexts'. -/
def styleTextsUptoCard : Claim7 := { stood := { row := styleTextsUptoRow, standIns := [], harness := (true, "e4e3b0782b4a6ee26a786b6c52e15713f0d25f39e227244fc5653d01f83727d1"), looks := true }, kinds := [], alts := [], laidByText := true, laidKinds := [.data, .pinned], laidTests := true, laidLooks := .later }
def StyleTextsUptoCardSaid : Prop := Claim7.holds Tryd.pinned (.plain (OpenSpec.upto styleTextsSpec)) styleTextsUptoCard

/-- THE SECOND FORM's CARD OF 'bobbinetlaw.UrlStrips'. -/
def urlStripsUptoCard : Claim7 := { stood := { row := urlStripsUptoRow, standIns := [], harness := (true, "e4e3b0782b4a6ee26a786b6c52e15713f0d25f39e227244fc5653d01f83727d1"), looks := true }, kinds := [], alts := [], laidByText := true, laidKinds := [.data, .pinned], laidTests := true, laidLooks := .later }
def UrlStripsUptoCardSaid : Prop := Claim7.holds Tryd.pinned (.plain (OpenSpec.upto urlStripsSpec)) urlStripsUptoCard

/-- THE SECOND FORM's CARD OF 'bobbinetlaw.UrlSchemes'. -/
def urlSchemesUptoCard : Claim7 := { stood := { row := urlSchemesUptoRow, standIns := [], harness := (true, "e4e3b0782b4a6ee26a786b6c52e15713f0d25f39e227244fc5653d01f83727d1"), looks := true }, kinds := [], alts := [], laidByText := true, laidKinds := [.data, .pinned], laidTests := true, laidLooks := .later }
def UrlSchemesUptoCardSaid : Prop := Claim7.holds Tryd.pinned (.plain (OpenSpec.upto urlSchemesSpec)) urlSchemesUptoCard

/-- THE SECOND FORM's CARD OF 'bobbinetlaw.RefUnescapes'. -/
def refUnescapesUptoCard : Claim7 := { stood := { row := refUnescapesUptoRow, standIns := [], harness := (true, "e4e3b0782b4a6ee26a786b6c52e15713f0d25f39e227244fc5653d01f83727d1"), looks := true }, kinds := [], alts := [], laidByText := true, laidKinds := [.data, .data, .data, .sentinel, .sentinel], laidTests := true, laidLooks := .later }
def RefUnescapesUptoCardSaid : Prop := Claim7.holds Tryd.pinned (.plain (OpenSpec.upto refUnescapesSpec)) refUnescapesUptoCard
end Rows
end Go.Proofs.YtaeeceabnkgnnaaDoor
