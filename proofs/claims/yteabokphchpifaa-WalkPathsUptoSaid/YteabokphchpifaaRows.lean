/-
  NARROWER THAN 'FOR EVERY INPUT', by the rows' own cells (each row's printed sentence says how): TreeCounts: loops · WalkPaths: loops · WalkAts: loops.
  DERIVED. THE GIVEN ROWS OF THIS SEAT. 12 by the template 'for every input the law returns true; each argument reads behind the call as it read before'; 0 by the template 'total and deterministic' (their statements: YteabokphchpifaaTotals.lean).
  GIVEN WITH THE SEED: the statements are not yours to turn. If you find one false, say at which input.
  Laid BY PROGRAM, IN A SANDBOX (cutbox-rows.mjs): the forced cells as the released guide's own fill.sh prints them over the translation e19ff9f86e2e294d… (all of the seat's roots in one cut). By AI agents, Wed Nov 11 2026. No macro, syntax, notation, axiom, sorry.
-/
import Derived.Test.YteabokphchpifaaChecked
import GoSem.Claim
import GoSem.ClaimJoined
import GoSem.ClaimMapViews
import Derived.JoinedTies
import Derived.KernelRfl
namespace Go.Proofs.Yteabokphchpifaa
/- THE CELL 'sum', in the pinned program and in every row, IS THE sha256 OF THE DUMP (.gsa) THAT YteabokphchpifaaProg.lean LOADS. Nothing in Lean hashes anything: it is a label: what it is worth is what the hold of that sum in a sandbox is worth. -/
noncomputable def Try.pinned : Pinned := { name := "yteabokphchpifaa", sum := "e19ff9f86e2e294df46761a05b56b1e202435b9280cee01c932951908dba6b3a", checked := Try.checked }
namespace Rows
def none {H : Type} : Left H := { results := [], args := [] }

/-- 'bobbinetlaw.Names': WHATEVER THE INPUT: true; the input reads as it did. -/
def namesSpec : ChangeSpec := { name := "names", fn := fun _ => fun
  | [] => { results := [.lit (.bool true)], args := [] }
  | _ => none }
def namesRow : OpenClaim := { program := "yteabokphchpifaa", sum := "e19ff9f86e2e294df46761a05b56b1e202435b9280cee01c932951908dba6b3a", func := "bobbinet/bobbinetlaw.Names", spec := "names", apart := false }
def NamesSaid : Prop := namesRow.holds Try.pinned (OpenSpec.ofChange namesSpec)

/-- ITS FALSE NEIGHBOUR: 'it returns false'. Refute it at one input. -/
def namesWrong : ChangeSpec := { name := "names", fn := fun _ => fun
  | [] => { results := [.lit (.bool false)], args := [] }
  | _ => none }
def NamesWrongFalsely : Prop := namesRow.holds Try.pinned (OpenSpec.ofChange namesWrong)

/-- 'bobbinetlaw.UtfRuneses': WHATEVER THE INPUT: true; the input reads as it did. -/
def utfRunesesSpec : ChangeSpec := { name := "utfRuneses", fn := fun _ => fun
  | [d] => { results := [.lit (.bool true)], args := [d] }
  | _ => none }
def utfRunesesRow : OpenClaim := { program := "yteabokphchpifaa", sum := "e19ff9f86e2e294df46761a05b56b1e202435b9280cee01c932951908dba6b3a", func := "bobbinet/bobbinetlaw.UtfRuneses", spec := "utfRuneses", unfollowed := true, recurses := true, apart := false }
def UtfRunesesSaid : Prop := utfRunesesRow.holds Try.pinned (OpenSpec.ofChange utfRunesesSpec)

/-- ITS FALSE NEIGHBOUR: 'it returns false'. Refute it at one input. -/
def utfRunesesWrong : ChangeSpec := { name := "utfRuneses", fn := fun _ => fun
  | [d] => { results := [.lit (.bool false)], args := [d] }
  | _ => none }
def UtfRunesesWrongFalsely : Prop := utfRunesesRow.holds Try.pinned (OpenSpec.ofChange utfRunesesWrong)

/-- 'bobbinetlaw.TreeCounts': WHATEVER THE INPUT: true; the input reads as it did. -/
def treeCountsSpec : ChangeSpec := { name := "treeCounts", fn := fun _ => fun
  | [d] => { results := [.lit (.bool true)], args := [d] }
  | _ => none }
def treeCountsRow : OpenClaim := { program := "yteabokphchpifaa", sum := "e19ff9f86e2e294df46761a05b56b1e202435b9280cee01c932951908dba6b3a", func := "bobbinet/bobbinetlaw.TreeCounts", spec := "treeCounts", recurses := true, loops := true, apart := false }
def TreeCountsSaid : Prop := treeCountsRow.holds Try.pinned (OpenSpec.ofChange treeCountsSpec)

/-- ITS FALSE NEIGHBOUR: 'it returns false'. Refute it at one input. -/
def treeCountsWrong : ChangeSpec := { name := "treeCounts", fn := fun _ => fun
  | [d] => { results := [.lit (.bool false)], args := [d] }
  | _ => none }
def TreeCountsWrongFalsely : Prop := treeCountsRow.holds Try.pinned (OpenSpec.ofChange treeCountsWrong)

/-- 'bobbinetlaw.WalkPaths': WHATEVER THE INPUT: true; the input reads as it did. -/
def walkPathsSpec : ChangeSpec := { name := "walkPaths", fn := fun _ => fun
  | [d] => { results := [.lit (.bool true)], args := [d] }
  | _ => none }
def walkPathsRow : OpenClaim := { program := "yteabokphchpifaa", sum := "e19ff9f86e2e294df46761a05b56b1e202435b9280cee01c932951908dba6b3a", func := "bobbinet/bobbinetlaw.WalkPaths", spec := "walkPaths", unfollowed := true, recurses := true, loops := true, apart := false }
def WalkPathsSaid : Prop := walkPathsRow.holds Try.pinned (OpenSpec.ofChange walkPathsSpec)

/-- ITS FALSE NEIGHBOUR: 'it returns false'. Refute it at one input. -/
def walkPathsWrong : ChangeSpec := { name := "walkPaths", fn := fun _ => fun
  | [d] => { results := [.lit (.bool false)], args := [d] }
  | _ => none }
def WalkPathsWrongFalsely : Prop := walkPathsRow.holds Try.pinned (OpenSpec.ofChange walkPathsWrong)

/-- 'bobbinetlaw.AutoMays': WHATEVER THE INPUT: true; the input reads as it did. -/
def autoMaysSpec : ChangeSpec := { name := "autoMays", fn := fun _ => fun
  | [d] => { results := [.lit (.bool true)], args := [d] }
  | _ => none }
def autoMaysRow : OpenClaim := { program := "yteabokphchpifaa", sum := "e19ff9f86e2e294df46761a05b56b1e202435b9280cee01c932951908dba6b3a", func := "bobbinet/bobbinetlaw.AutoMays", spec := "autoMays", unfollowed := true, recurses := true, apart := false }
def AutoMaysSaid : Prop := autoMaysRow.holds Try.pinned (OpenSpec.ofChange autoMaysSpec)

/-- ITS FALSE NEIGHBOUR: 'it returns false'. Refute it at one input. -/
def autoMaysWrong : ChangeSpec := { name := "autoMays", fn := fun _ => fun
  | [d] => { results := [.lit (.bool false)], args := [d] }
  | _ => none }
def AutoMaysWrongFalsely : Prop := autoMaysRow.holds Try.pinned (OpenSpec.ofChange autoMaysWrong)

/-- 'bobbinetlaw.WalkAts': WHATEVER THE INPUT: true; the input reads as it did. -/
def walkAtsSpec : ChangeSpec := { name := "walkAts", fn := fun _ => fun
  | [d1, d2] => { results := [.lit (.bool true)], args := [d1, d2] }
  | _ => none }
def walkAtsRow : OpenClaim := { program := "yteabokphchpifaa", sum := "e19ff9f86e2e294df46761a05b56b1e202435b9280cee01c932951908dba6b3a", func := "bobbinet/bobbinetlaw.WalkAts", spec := "walkAts", recurses := true, loops := true, apart := false }
def WalkAtsSaid : Prop := walkAtsRow.holds Try.pinned (OpenSpec.ofChange walkAtsSpec)

/-- ITS FALSE NEIGHBOUR: 'it returns false'. Refute it at one input. -/
def walkAtsWrong : ChangeSpec := { name := "walkAts", fn := fun _ => fun
  | [d1, d2] => { results := [.lit (.bool false)], args := [d1, d2] }
  | _ => none }
def WalkAtsWrongFalsely : Prop := walkAtsRow.holds Try.pinned (OpenSpec.ofChange walkAtsWrong)

/-- 'bobbinetlaw.UtfCleans': WHATEVER THE INPUT: true; the input reads as it did. -/
def utfCleansSpec : ChangeSpec := { name := "utfCleans", fn := fun _ => fun
  | [d] => { results := [.lit (.bool true)], args := [d] }
  | _ => none }
def utfCleansRow : OpenClaim := { program := "yteabokphchpifaa", sum := "e19ff9f86e2e294df46761a05b56b1e202435b9280cee01c932951908dba6b3a", func := "bobbinet/bobbinetlaw.UtfCleans", spec := "utfCleans", unfollowed := true, recurses := true, apart := false }
def UtfCleansSaid : Prop := utfCleansRow.holds Try.pinned (OpenSpec.ofChange utfCleansSpec)

/-- ITS FALSE NEIGHBOUR: 'it returns false'. Refute it at one input. -/
def utfCleansWrong : ChangeSpec := { name := "utfCleans", fn := fun _ => fun
  | [d] => { results := [.lit (.bool false)], args := [d] }
  | _ => none }
def UtfCleansWrongFalsely : Prop := utfCleansRow.holds Try.pinned (OpenSpec.ofChange utfCleansWrong)

/-- 'bobbinetlaw.StyleOnlies': WHATEVER THE INPUT: true; the input reads as it did. -/
def styleOnliesSpec : ChangeSpec := { name := "styleOnlies", fn := fun _ => fun
  | [d1, d2] => { results := [.lit (.bool true)], args := [d1, d2] }
  | _ => none }
def styleOnliesRow : OpenClaim := { program := "yteabokphchpifaa", sum := "e19ff9f86e2e294df46761a05b56b1e202435b9280cee01c932951908dba6b3a", func := "bobbinet/bobbinetlaw.StyleOnlies", spec := "styleOnlies", unfollowed := true, recurses := true, apart := false }
def StyleOnliesSaid : Prop := styleOnliesRow.holds Try.pinned (OpenSpec.ofChange styleOnliesSpec)

/-- ITS FALSE NEIGHBOUR: 'it returns false'. Refute it at one input. -/
def styleOnliesWrong : ChangeSpec := { name := "styleOnlies", fn := fun _ => fun
  | [d1, d2] => { results := [.lit (.bool false)], args := [d1, d2] }
  | _ => none }
def StyleOnliesWrongFalsely : Prop := styleOnliesRow.holds Try.pinned (OpenSpec.ofChange styleOnliesWrong)

/-- 'bobbinetlaw.AutoRuns': WHATEVER THE INPUT: true; the input reads as it did. -/
def autoRunsSpec : ChangeSpec := { name := "autoRuns", fn := fun _ => fun
  | [d1, d2] => { results := [.lit (.bool true)], args := [d1, d2] }
  | _ => none }
def autoRunsRow : OpenClaim := { program := "yteabokphchpifaa", sum := "e19ff9f86e2e294df46761a05b56b1e202435b9280cee01c932951908dba6b3a", func := "bobbinet/bobbinetlaw.AutoRuns", spec := "autoRuns", unfollowed := true, recurses := true, apart := false }
def AutoRunsSaid : Prop := autoRunsRow.holds Try.pinned (OpenSpec.ofChange autoRunsSpec)

/-- ITS FALSE NEIGHBOUR: 'it returns false'. Refute it at one input. -/
def autoRunsWrong : ChangeSpec := { name := "autoRuns", fn := fun _ => fun
  | [d1, d2] => { results := [.lit (.bool false)], args := [d1, d2] }
  | _ => none }
def AutoRunsWrongFalsely : Prop := autoRunsRow.holds Try.pinned (OpenSpec.ofChange autoRunsWrong)

/-- 'bobbinetlaw.SpaceTexts': WHATEVER THE INPUT: true; the input reads as it did. -/
def spaceTextsSpec : ChangeSpec := { name := "spaceTexts", fn := fun _ => fun
  | [d1, d2] => { results := [.lit (.bool true)], args := [d1, d2] }
  | _ => none }
def spaceTextsRow : OpenClaim := { program := "yteabokphchpifaa", sum := "e19ff9f86e2e294df46761a05b56b1e202435b9280cee01c932951908dba6b3a", func := "bobbinet/bobbinetlaw.SpaceTexts", spec := "spaceTexts", inPlace := ["internal/abi.NoEscape"], apart := false }
def SpaceTextsSaid : Prop := spaceTextsRow.holds Try.pinned (OpenSpec.ofChange spaceTextsSpec)

/-- ITS FALSE NEIGHBOUR: 'it returns false'. Refute it at one input. -/
def spaceTextsWrong : ChangeSpec := { name := "spaceTexts", fn := fun _ => fun
  | [d1, d2] => { results := [.lit (.bool false)], args := [d1, d2] }
  | _ => none }
def SpaceTextsWrongFalsely : Prop := spaceTextsRow.holds Try.pinned (OpenSpec.ofChange spaceTextsWrong)

/-- 'bobbinetlaw.UtfTexts': WHATEVER THE INPUT: true; the input reads as it did. -/
def utfTextsSpec : ChangeSpec := { name := "utfTexts", fn := fun _ => fun
  | [d] => { results := [.lit (.bool true)], args := [d] }
  | _ => none }
def utfTextsRow : OpenClaim := { program := "yteabokphchpifaa", sum := "e19ff9f86e2e294df46761a05b56b1e202435b9280cee01c932951908dba6b3a", func := "bobbinet/bobbinetlaw.UtfTexts", spec := "utfTexts", unfollowed := true, recurses := true, apart := false }
def UtfTextsSaid : Prop := utfTextsRow.holds Try.pinned (OpenSpec.ofChange utfTextsSpec)

/-- ITS FALSE NEIGHBOUR: 'it returns false'. Refute it at one input. -/
def utfTextsWrong : ChangeSpec := { name := "utfTexts", fn := fun _ => fun
  | [d] => { results := [.lit (.bool false)], args := [d] }
  | _ => none }
def UtfTextsWrongFalsely : Prop := utfTextsRow.holds Try.pinned (OpenSpec.ofChange utfTextsWrong)

/-- 'bobbinetlaw.RefEscapes': WHATEVER THE INPUT: true; the input reads as it did. -/
def refEscapesSpec : ChangeSpec := { name := "refEscapes", fn := fun _ => fun
  | [d1, d2] => { results := [.lit (.bool true)], args := [d1, d2] }
  | _ => none }
def refEscapesRow : OpenClaim := { program := "yteabokphchpifaa", sum := "e19ff9f86e2e294df46761a05b56b1e202435b9280cee01c932951908dba6b3a", func := "bobbinet/bobbinetlaw.RefEscapes", spec := "refEscapes", inPlace := ["internal/abi.NoEscape"], apart := false }
def RefEscapesSaid : Prop := refEscapesRow.holds Try.pinned (OpenSpec.ofChange refEscapesSpec)

/-- ITS FALSE NEIGHBOUR: 'it returns false'. Refute it at one input. -/
def refEscapesWrong : ChangeSpec := { name := "refEscapes", fn := fun _ => fun
  | [d1, d2] => { results := [.lit (.bool false)], args := [d1, d2] }
  | _ => none }
def RefEscapesWrongFalsely : Prop := refEscapesRow.holds Try.pinned (OpenSpec.ofChange refEscapesWrong)

/- THE SECOND FORM. 'bulk': how many values and letters a reading holds, each counted each time it is reached (what is shared counts as often as it is met; a slice's spare places count too). A statement '..UptoSaid' is the law's where the arguments, and the package variables that the reading takes, are together of bulk at most 1048576: NARROWER than '..Said'. Prove '..Said' where nothing that the law and all that it calls make is longer than what came in: it says more and counts as full. Else prove '..UptoSaid'. A law counts once. -/
mutual
def uptoBulk {H : Type} : DataW H → Nat
  | .lit (.string bytes) => bytes.length + 1
  | .lit _ => 1
  | .nil => 1
  | .ptr d => uptoBulk d + 1
  | .slice elems spare => uptoBulkAll elems + uptoBulkAll spare + 1
  | .agg parts => uptoBulkAll parts + 1
  | .iface _ d => uptoBulk d + 1
  | .map entries => uptoBulkEntries entries + 1
  | .held _ => 1
def uptoBulkAll {H : Type} : List (DataW H) → Nat
  | [] => 0
  | d :: r => uptoBulk d + uptoBulkAll r
def uptoBulkEntries {H : Type} : List (Lit × DataW H) → Nat
  | [] => 0
  | x :: r => uptoBulkEntry x + uptoBulkEntries r
def uptoBulkEntry {H : Type} : Lit × DataW H → Nat
  | (.string bytes, d) => bytes.length + uptoBulk d + 1
  | (_, d) => uptoBulk d + 1
 end
def uptoSmall : (H : Type) → List (DataW H) → Bool := fun _ ds => decide (uptoBulkAll ds ≤ 1048576)
def OpenSpec.upto (s : _root_.Go.ChangeSpec) : _root_.Go.OpenSpec := { _root_.Go.OpenSpec.ofChange s with cond := some uptoSmall }

/-- 'bobbinetlaw.Names', WHERE WHAT IT READS IS OF BULK AT MOST 1048576: true; the input reads as it did. -/
def namesUptoRow : OpenClaim := { program := "yteabokphchpifaa", sum := "e19ff9f86e2e294df46761a05b56b1e202435b9280cee01c932951908dba6b3a", func := "bobbinet/bobbinetlaw.Names", spec := "names", apart := false, narrowed := true }
def NamesUptoSaid : Prop := namesUptoRow.holds Try.pinned (OpenSpec.upto namesSpec)

/-- 'bobbinetlaw.UtfRuneses', WHERE WHAT IT READS IS OF BULK AT MOST 1048576: true; the input reads as it did. -/
def utfRunesesUptoRow : OpenClaim := { program := "yteabokphchpifaa", sum := "e19ff9f86e2e294df46761a05b56b1e202435b9280cee01c932951908dba6b3a", func := "bobbinet/bobbinetlaw.UtfRuneses", spec := "utfRuneses", unfollowed := true, recurses := true, apart := false, narrowed := true }
def UtfRunesesUptoSaid : Prop := utfRunesesUptoRow.holds Try.pinned (OpenSpec.upto utfRunesesSpec)

/-- 'bobbinetlaw.TreeCounts', WHERE WHAT IT READS IS OF BULK AT MOST 1048576: true; the input reads as it did. -/
def treeCountsUptoRow : OpenClaim := { program := "yteabokphchpifaa", sum := "e19ff9f86e2e294df46761a05b56b1e202435b9280cee01c932951908dba6b3a", func := "bobbinet/bobbinetlaw.TreeCounts", spec := "treeCounts", recurses := true, loops := true, apart := false, narrowed := true }
def TreeCountsUptoSaid : Prop := treeCountsUptoRow.holds Try.pinned (OpenSpec.upto treeCountsSpec)

/-- 'bobbinetlaw.WalkPaths', WHERE WHAT IT READS IS OF BULK AT MOST 1048576: true; the input reads as it did. -/
def walkPathsUptoRow : OpenClaim := { program := "yteabokphchpifaa", sum := "e19ff9f86e2e294df46761a05b56b1e202435b9280cee01c932951908dba6b3a", func := "bobbinet/bobbinetlaw.WalkPaths", spec := "walkPaths", unfollowed := true, recurses := true, loops := true, apart := false, narrowed := true }
def WalkPathsUptoSaid : Prop := walkPathsUptoRow.holds Try.pinned (OpenSpec.upto walkPathsSpec)

/-- 'bobbinetlaw.AutoMays', WHERE WHAT IT READS IS OF BULK AT MOST 1048576: true; the input reads as it did. -/
def autoMaysUptoRow : OpenClaim := { program := "yteabokphchpifaa", sum := "e19ff9f86e2e294df46761a05b56b1e202435b9280cee01c932951908dba6b3a", func := "bobbinet/bobbinetlaw.AutoMays", spec := "autoMays", unfollowed := true, recurses := true, apart := false, narrowed := true }
def AutoMaysUptoSaid : Prop := autoMaysUptoRow.holds Try.pinned (OpenSpec.upto autoMaysSpec)

/-- 'bobbinetlaw.WalkAts', WHERE WHAT IT READS IS OF BULK AT MOST 1048576: true; the input reads as it did. -/
def walkAtsUptoRow : OpenClaim := { program := "yteabokphchpifaa", sum := "e19ff9f86e2e294df46761a05b56b1e202435b9280cee01c932951908dba6b3a", func := "bobbinet/bobbinetlaw.WalkAts", spec := "walkAts", recurses := true, loops := true, apart := false, narrowed := true }
def WalkAtsUptoSaid : Prop := walkAtsUptoRow.holds Try.pinned (OpenSpec.upto walkAtsSpec)

/-- 'bobbinetlaw.UtfCleans', WHERE WHAT IT READS IS OF BULK AT MOST 1048576: true; the input reads as it did. -/
def utfCleansUptoRow : OpenClaim := { program := "yteabokphchpifaa", sum := "e19ff9f86e2e294df46761a05b56b1e202435b9280cee01c932951908dba6b3a", func := "bobbinet/bobbinetlaw.UtfCleans", spec := "utfCleans", unfollowed := true, recurses := true, apart := false, narrowed := true }
def UtfCleansUptoSaid : Prop := utfCleansUptoRow.holds Try.pinned (OpenSpec.upto utfCleansSpec)

/-- 'bobbinetlaw.StyleOnlies', WHERE WHAT IT READS IS OF BULK AT MOST 1048576: true; the input reads as it did. -/
def styleOnliesUptoRow : OpenClaim := { program := "yteabokphchpifaa", sum := "e19ff9f86e2e294df46761a05b56b1e202435b9280cee01c932951908dba6b3a", func := "bobbinet/bobbinetlaw.StyleOnlies", spec := "styleOnlies", unfollowed := true, recurses := true, apart := false, narrowed := true }
def StyleOnliesUptoSaid : Prop := styleOnliesUptoRow.holds Try.pinned (OpenSpec.upto styleOnliesSpec)

/-- 'bobbinetlaw.AutoRuns', WHERE WHAT IT READS IS OF BULK AT MOST 1048576: true; the input reads as it did. -/
def autoRunsUptoRow : OpenClaim := { program := "yteabokphchpifaa", sum := "e19ff9f86e2e294df46761a05b56b1e202435b9280cee01c932951908dba6b3a", func := "bobbinet/bobbinetlaw.AutoRuns", spec := "autoRuns", unfollowed := true, recurses := true, apart := false, narrowed := true }
def AutoRunsUptoSaid : Prop := autoRunsUptoRow.holds Try.pinned (OpenSpec.upto autoRunsSpec)

/-- 'bobbinetlaw.SpaceTexts', WHERE WHAT IT READS IS OF BULK AT MOST 1048576: true; the input reads as it did. -/
def spaceTextsUptoRow : OpenClaim := { program := "yteabokphchpifaa", sum := "e19ff9f86e2e294df46761a05b56b1e202435b9280cee01c932951908dba6b3a", func := "bobbinet/bobbinetlaw.SpaceTexts", spec := "spaceTexts", inPlace := ["internal/abi.NoEscape"], apart := false, narrowed := true }
def SpaceTextsUptoSaid : Prop := spaceTextsUptoRow.holds Try.pinned (OpenSpec.upto spaceTextsSpec)

/-- 'bobbinetlaw.UtfTexts', WHERE WHAT IT READS IS OF BULK AT MOST 1048576: true; the input reads as it did. -/
def utfTextsUptoRow : OpenClaim := { program := "yteabokphchpifaa", sum := "e19ff9f86e2e294df46761a05b56b1e202435b9280cee01c932951908dba6b3a", func := "bobbinet/bobbinetlaw.UtfTexts", spec := "utfTexts", unfollowed := true, recurses := true, apart := false, narrowed := true }
def UtfTextsUptoSaid : Prop := utfTextsUptoRow.holds Try.pinned (OpenSpec.upto utfTextsSpec)

/-- 'bobbinetlaw.RefEscapes', WHERE WHAT IT READS IS OF BULK AT MOST 1048576: true; the input reads as it did. -/
def refEscapesUptoRow : OpenClaim := { program := "yteabokphchpifaa", sum := "e19ff9f86e2e294df46761a05b56b1e202435b9280cee01c932951908dba6b3a", func := "bobbinet/bobbinetlaw.RefEscapes", spec := "refEscapes", inPlace := ["internal/abi.NoEscape"], apart := false, narrowed := true }
def RefEscapesUptoSaid : Prop := refEscapesUptoRow.holds Try.pinned (OpenSpec.upto refEscapesSpec)

end Rows
end Go.Proofs.Yteabokphchpifaa
