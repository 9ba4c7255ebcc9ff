/-
  DERIVED. GIVEN WITH THE SEED: THE CARDS: each row of YtaapdbcbefnhgaaDoorRows.lean that lists a variable, with what it lists TIED to the program's text (the seventh form; the later family's looks); each row that meets fmt, with fmt's text TOLD by the authors' own Lean function (tested against real Go, not proved from fmt's source: count such statements apart). THE CARD IS WHAT COUNTS. Prove the row's statement (the work); the ties are given (YtaapdbcbefnhgaaDoorTie.lean); close each card by the builder's one call (the guide's Derived/Test/ToyasCard.lean, 'card_holds'). Laid BY PROGRAM, IN A SANDBOX (cutbox-door.mjs). By AI agents, Wed Nov 11 2026. No macro, syntax, notation, axiom, sorry.
-/
import Derived.Test.YtaapdbcbefnhgaaDoorRows
import GoSem.ClaimSeven
namespace Go.Proofs.YtaapdbcbefnhgaaDoor
namespace Rows

/-- THE TIED CARD OF 'bobbinetlaw.TreeBuilds'. -/
def treeBuildsCard : Claim7 := { stood := { row := treeBuildsRow, standIns := [], harness := (true, "0a9de3f91f5b185997b8ab58322364ed0f5108f2e783fba7ce0f3e4128235f91"), looks := false }, kinds := [], alts := [], laidByText := true, laidKinds := [.widerDeep, .widerDeep], laidTests := true, laidLooks := .later }
def TreeBuildsCardSaid : Prop := Claim7.holds Tryd.pinned (.plain (OpenSpec.ofChange treeBuildsSpec)) treeBuildsCard

/-- THE TIED CARD OF 'bobbinetlaw.MarksChecks'. -/
def marksChecksCard : Claim7 := { stood := { row := marksChecksRow, standIns := [], harness := (true, "0a9de3f91f5b185997b8ab58322364ed0f5108f2e783fba7ce0f3e4128235f91"), looks := false }, kinds := [], alts := [], laidByText := true, laidKinds := [.listed, .data], laidTests := true, laidLooks := .later }
def MarksChecksCardSaid : Prop := Claim7.holds Tryd.pinned (.plain (OpenSpec.ofChange marksChecksSpec)) marksChecksCard

/-- THE TIED CARD OF 'bobbinetlaw.MarksNorms'. -/
def marksNormsCard : Claim7 := { stood := { row := marksNormsRow, standIns := [], harness := (true, "0a9de3f91f5b185997b8ab58322364ed0f5108f2e783fba7ce0f3e4128235f91"), looks := false }, kinds := [], alts := [], laidByText := true, laidKinds := [.listed, .data], laidTests := true, laidLooks := .later }
def MarksNormsCardSaid : Prop := Claim7.holds Tryd.pinned (.plain (OpenSpec.ofChange marksNormsSpec)) marksNormsCard

/-- THE TIED CARD OF 'bobbinetlaw.MarksNests'. -/
def marksNestsCard : Claim7 := { stood := { row := marksNestsRow, standIns := [], harness := (true, "0a9de3f91f5b185997b8ab58322364ed0f5108f2e783fba7ce0f3e4128235f91"), looks := false }, kinds := [], alts := [], laidByText := true, laidKinds := [.listed, .data], laidTests := true, laidLooks := .later }
def MarksNestsCardSaid : Prop := Claim7.holds Tryd.pinned (.plain (OpenSpec.ofChange marksNestsSpec)) marksNestsCard

/-- THE TIED CARD OF 'bobbinetlaw.MarksFlats'. -/
def marksFlatsCard : Claim7 := { stood := { row := marksFlatsRow, standIns := [], harness := (true, "0a9de3f91f5b185997b8ab58322364ed0f5108f2e783fba7ce0f3e4128235f91"), looks := false }, kinds := [], alts := [], laidByText := true, laidKinds := [.listed, .data], laidTests := true, laidLooks := .later }
def MarksFlatsCardSaid : Prop := Claim7.holds Tryd.pinned (.plain (OpenSpec.ofChange marksFlatsSpec)) marksFlatsCard

/-- THE SECOND FORM's CARD OF 'bobbinetlaw.TreeBuilds'. -/
def treeBuildsUptoCard : Claim7 := { stood := { row := treeBuildsUptoRow, standIns := [], harness := (true, "0a9de3f91f5b185997b8ab58322364ed0f5108f2e783fba7ce0f3e4128235f91"), looks := false }, kinds := [], alts := [], laidByText := true, laidKinds := [.widerDeep, .widerDeep], laidTests := true, laidLooks := .later }
def TreeBuildsUptoCardSaid : Prop := Claim7.holds Tryd.pinned (.plain (OpenSpec.upto treeBuildsSpec)) treeBuildsUptoCard

/-- THE SECOND FORM's CARD OF 'bobbinetlaw.MarksChecks'. -/
def marksChecksUptoCard : Claim7 := { stood := { row := marksChecksUptoRow, standIns := [], harness := (true, "0a9de3f91f5b185997b8ab58322364ed0f5108f2e783fba7ce0f3e4128235f91"), looks := false }, kinds := [], alts := [], laidByText := true, laidKinds := [.listed, .data], laidTests := true, laidLooks := .later }
def MarksChecksUptoCardSaid : Prop := Claim7.holds Tryd.pinned (.plain (OpenSpec.upto marksChecksSpec)) marksChecksUptoCard

/-- THE SECOND FORM's CARD OF 'bobbinetlaw.MarksNorms'. -/
def marksNormsUptoCard : Claim7 := { stood := { row := marksNormsUptoRow, standIns := [], harness := (true, "0a9de3f91f5b185997b8ab58322364ed0f5108f2e783fba7ce0f3e4128235f91"), looks := false }, kinds := [], alts := [], laidByText := true, laidKinds := [.listed, .data], laidTests := true, laidLooks := .later }
def MarksNormsUptoCardSaid : Prop := Claim7.holds Tryd.pinned (.plain (OpenSpec.upto marksNormsSpec)) marksNormsUptoCard

/-- THE SECOND FORM's CARD OF 'bobbinetlaw.MarksNests'. -/
def marksNestsUptoCard : Claim7 := { stood := { row := marksNestsUptoRow, standIns := [], harness := (true, "0a9de3f91f5b185997b8ab58322364ed0f5108f2e783fba7ce0f3e4128235f91"), looks := false }, kinds := [], alts := [], laidByText := true, laidKinds := [.listed, .data], laidTests := true, laidLooks := .later }
def MarksNestsUptoCardSaid : Prop := Claim7.holds Tryd.pinned (.plain (OpenSpec.upto marksNestsSpec)) marksNestsUptoCard

/-- THE SECOND FORM's CARD OF 'bobbinetlaw.MarksFlats'. -/
def marksFlatsUptoCard : Claim7 := { stood := { row := marksFlatsUptoRow, standIns := [], harness := (true, "0a9de3f91f5b185997b8ab58322364ed0f5108f2e783fba7ce0f3e4128235f91"), looks := false }, kinds := [], alts := [], laidByText := true, laidKinds := [.listed, .data], laidTests := true, laidLooks := .later }
def MarksFlatsUptoCardSaid : Prop := Claim7.holds Tryd.pinned (.plain (OpenSpec.upto marksFlatsSpec)) marksFlatsUptoCard
end Rows
end Go.Proofs.YtaapdbcbefnhgaaDoor
