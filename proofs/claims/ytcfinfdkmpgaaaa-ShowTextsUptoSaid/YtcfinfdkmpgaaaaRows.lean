/-
  NARROWER THAN 'FOR EVERY INPUT', by the rows' own cells (each row's printed sentence says how): PickFinds: loops · ShowChecks: loops · ExprChecks: loops · ExprPrints: loops · ShowTexts: loops.
  DERIVED. THE GIVEN ROWS OF THIS SEAT. 11 by the template 'for every input the law returns true; each argument reads behind the call as it read before'; 0 by the template 'total and deterministic' (their statements: YtcfinfdkmpgaaaaTotals.lean).
  GIVEN WITH THE SEED: the statements are not yours to turn. If you find one false, say at which input.
  Laid BY PROGRAM, IN A SANDBOX (cutbox-rows.mjs): the forced cells as the released guide's own fill.sh prints them over the translation ca4805059b6443b6… (all of the seat's roots in one cut). By AI agents, Wed Nov 11 2026. No macro, syntax, notation, axiom, sorry.
-/
import Derived.Test.YtcfinfdkmpgaaaaChecked
import GoSem.Claim
import GoSem.ClaimJoined
import GoSem.ClaimMapViews
import Derived.JoinedTies
import Derived.KernelRfl
namespace Go.Proofs.Ytcfinfdkmpgaaaa
/- THE CELL 'sum', in the pinned program and in every row, IS THE sha256 OF THE DUMP (.gsa) THAT YtcfinfdkmpgaaaaProg.lean LOADS. Nothing in Lean hashes anything: it is a label: what it is worth is what the hold of that sum in a sandbox is worth. -/
noncomputable def Try.pinned : Pinned := { name := "ytcfinfdkmpgaaaa", sum := "ca4805059b6443b6e256d4c3325a76fa2d71f98c2a5d30aaa66915b7e27b5de1", checked := Try.checked }
namespace Rows
def none {H : Type} : Left H := { results := [], args := [] }

/-- 'bobbinetlaw.AutoCounts': WHATEVER THE INPUT: true; the input reads as it did. -/
def autoCountsSpec : ChangeSpec := { name := "autoCounts", fn := fun _ => fun
  | [d1, d2] => { results := [.lit (.bool true)], args := [d1, d2] }
  | _ => none }
def autoCountsRow : OpenClaim := { program := "ytcfinfdkmpgaaaa", sum := "ca4805059b6443b6e256d4c3325a76fa2d71f98c2a5d30aaa66915b7e27b5de1", func := "bobbinet/bobbinetlaw.AutoCounts", spec := "autoCounts", unfollowed := true, recurses := true, apart := false }
def AutoCountsSaid : Prop := autoCountsRow.holds Try.pinned (OpenSpec.ofChange autoCountsSpec)

/-- ITS FALSE NEIGHBOUR: 'it returns false'. Refute it at one input. -/
def autoCountsWrong : ChangeSpec := { name := "autoCounts", fn := fun _ => fun
  | [d1, d2] => { results := [.lit (.bool false)], args := [d1, d2] }
  | _ => none }
def AutoCountsWrongFalsely : Prop := autoCountsRow.holds Try.pinned (OpenSpec.ofChange autoCountsWrong)

/-- 'bobbinetlaw.AutoLeasts': WHATEVER THE INPUT: true; the input reads as it did. -/
def autoLeastsSpec : ChangeSpec := { name := "autoLeasts", fn := fun _ => fun
  | [d] => { results := [.lit (.bool true)], args := [d] }
  | _ => none }
def autoLeastsRow : OpenClaim := { program := "ytcfinfdkmpgaaaa", sum := "ca4805059b6443b6e256d4c3325a76fa2d71f98c2a5d30aaa66915b7e27b5de1", func := "bobbinet/bobbinetlaw.AutoLeasts", spec := "autoLeasts", unfollowed := true, recurses := true, apart := false }
def AutoLeastsSaid : Prop := autoLeastsRow.holds Try.pinned (OpenSpec.ofChange autoLeastsSpec)

/-- ITS FALSE NEIGHBOUR: 'it returns false'. Refute it at one input. -/
def autoLeastsWrong : ChangeSpec := { name := "autoLeasts", fn := fun _ => fun
  | [d] => { results := [.lit (.bool false)], args := [d] }
  | _ => none }
def AutoLeastsWrongFalsely : Prop := autoLeastsRow.holds Try.pinned (OpenSpec.ofChange autoLeastsWrong)

/-- 'bobbinetlaw.RulesChecks': WHATEVER THE INPUT: true; the input reads as it did. -/
def rulesChecksSpec : ChangeSpec := { name := "rulesChecks", fn := fun _ => fun
  | [d] => { results := [.lit (.bool true)], args := [d] }
  | _ => none }
def rulesChecksRow : OpenClaim := { program := "ytcfinfdkmpgaaaa", sum := "ca4805059b6443b6e256d4c3325a76fa2d71f98c2a5d30aaa66915b7e27b5de1", func := "bobbinet/bobbinetlaw.RulesChecks", spec := "rulesChecks", unfollowed := true, recurses := true, apart := false }
def RulesChecksSaid : Prop := rulesChecksRow.holds Try.pinned (OpenSpec.ofChange rulesChecksSpec)

/-- ITS FALSE NEIGHBOUR: 'it returns false'. Refute it at one input. -/
def rulesChecksWrong : ChangeSpec := { name := "rulesChecks", fn := fun _ => fun
  | [d] => { results := [.lit (.bool false)], args := [d] }
  | _ => none }
def RulesChecksWrongFalsely : Prop := rulesChecksRow.holds Try.pinned (OpenSpec.ofChange rulesChecksWrong)

/-- 'bobbinetlaw.PickFinds': WHATEVER THE INPUT: true; the input reads as it did. -/
def pickFindsSpec : ChangeSpec := { name := "pickFinds", fn := fun _ => fun
  | [d1, d2] => { results := [.lit (.bool true)], args := [d1, d2] }
  | _ => none }
def pickFindsRow : OpenClaim := { program := "ytcfinfdkmpgaaaa", sum := "ca4805059b6443b6e256d4c3325a76fa2d71f98c2a5d30aaa66915b7e27b5de1", func := "bobbinet/bobbinetlaw.PickFinds", spec := "pickFinds", unfollowed := true, recurses := true, loops := true, apart := false }
def PickFindsSaid : Prop := pickFindsRow.holds Try.pinned (OpenSpec.ofChange pickFindsSpec)

/-- ITS FALSE NEIGHBOUR: 'it returns false'. Refute it at one input. -/
def pickFindsWrong : ChangeSpec := { name := "pickFinds", fn := fun _ => fun
  | [d1, d2] => { results := [.lit (.bool false)], args := [d1, d2] }
  | _ => none }
def PickFindsWrongFalsely : Prop := pickFindsRow.holds Try.pinned (OpenSpec.ofChange pickFindsWrong)

/-- 'bobbinetlaw.PickTexts': WHATEVER THE INPUT: true; the input reads as it did. -/
def pickTextsSpec : ChangeSpec := { name := "pickTexts", fn := fun _ => fun
  | [d] => { results := [.lit (.bool true)], args := [d] }
  | _ => none }
def pickTextsRow : OpenClaim := { program := "ytcfinfdkmpgaaaa", sum := "ca4805059b6443b6e256d4c3325a76fa2d71f98c2a5d30aaa66915b7e27b5de1", func := "bobbinet/bobbinetlaw.PickTexts", spec := "pickTexts", inPlace := ["internal/abi.NoEscape"], unfollowed := true, recurses := true, apart := false }
def PickTextsSaid : Prop := pickTextsRow.holds Try.pinned (OpenSpec.ofChange pickTextsSpec)

/-- ITS FALSE NEIGHBOUR: 'it returns false'. Refute it at one input. -/
def pickTextsWrong : ChangeSpec := { name := "pickTexts", fn := fun _ => fun
  | [d] => { results := [.lit (.bool false)], args := [d] }
  | _ => none }
def PickTextsWrongFalsely : Prop := pickTextsRow.holds Try.pinned (OpenSpec.ofChange pickTextsWrong)

/-- 'bobbinetlaw.EmitChecks': WHATEVER THE INPUT: true; the input reads as it did. -/
def emitChecksSpec : ChangeSpec := { name := "emitChecks", fn := fun _ => fun
  | [d] => { results := [.lit (.bool true)], args := [d] }
  | _ => none }
def emitChecksRow : OpenClaim := { program := "ytcfinfdkmpgaaaa", sum := "ca4805059b6443b6e256d4c3325a76fa2d71f98c2a5d30aaa66915b7e27b5de1", func := "bobbinet/bobbinetlaw.EmitChecks", spec := "emitChecks", unfollowed := true, recurses := true, apart := false }
def EmitChecksSaid : Prop := emitChecksRow.holds Try.pinned (OpenSpec.ofChange emitChecksSpec)

/-- ITS FALSE NEIGHBOUR: 'it returns false'. Refute it at one input. -/
def emitChecksWrong : ChangeSpec := { name := "emitChecks", fn := fun _ => fun
  | [d] => { results := [.lit (.bool false)], args := [d] }
  | _ => none }
def EmitChecksWrongFalsely : Prop := emitChecksRow.holds Try.pinned (OpenSpec.ofChange emitChecksWrong)

/-- 'bobbinetlaw.ShowChecks': WHATEVER THE INPUT: true; the input reads as it did. -/
def showChecksSpec : ChangeSpec := { name := "showChecks", fn := fun _ => fun
  | [d] => { results := [.lit (.bool true)], args := [d] }
  | _ => none }
def showChecksRow : OpenClaim := { program := "ytcfinfdkmpgaaaa", sum := "ca4805059b6443b6e256d4c3325a76fa2d71f98c2a5d30aaa66915b7e27b5de1", func := "bobbinet/bobbinetlaw.ShowChecks", spec := "showChecks", unfollowed := true, recurses := true, loops := true, apart := false }
def ShowChecksSaid : Prop := showChecksRow.holds Try.pinned (OpenSpec.ofChange showChecksSpec)

/-- ITS FALSE NEIGHBOUR: 'it returns false'. Refute it at one input. -/
def showChecksWrong : ChangeSpec := { name := "showChecks", fn := fun _ => fun
  | [d] => { results := [.lit (.bool false)], args := [d] }
  | _ => none }
def ShowChecksWrongFalsely : Prop := showChecksRow.holds Try.pinned (OpenSpec.ofChange showChecksWrong)

/-- 'bobbinetlaw.ExprChecks': WHATEVER THE INPUT: true; the input reads as it did. -/
def exprChecksSpec : ChangeSpec := { name := "exprChecks", fn := fun _ => fun
  | [d] => { results := [.lit (.bool true)], args := [d] }
  | _ => none }
def exprChecksRow : OpenClaim := { program := "ytcfinfdkmpgaaaa", sum := "ca4805059b6443b6e256d4c3325a76fa2d71f98c2a5d30aaa66915b7e27b5de1", func := "bobbinet/bobbinetlaw.ExprChecks", spec := "exprChecks", inPlace := ["internal/abi.NoEscape", "internal/bytealg.MakeNoZero"], unfollowed := true, recurses := true, loops := true, apart := false }
def ExprChecksSaid : Prop := exprChecksRow.holds Try.pinned (OpenSpec.ofChange exprChecksSpec)

/-- ITS FALSE NEIGHBOUR: 'it returns false'. Refute it at one input. -/
def exprChecksWrong : ChangeSpec := { name := "exprChecks", fn := fun _ => fun
  | [d] => { results := [.lit (.bool false)], args := [d] }
  | _ => none }
def ExprChecksWrongFalsely : Prop := exprChecksRow.holds Try.pinned (OpenSpec.ofChange exprChecksWrong)

/-- 'bobbinetlaw.EmitTexts': WHATEVER THE INPUT: true; the input reads as it did. -/
def emitTextsSpec : ChangeSpec := { name := "emitTexts", fn := fun _ => fun
  | [d] => { results := [.lit (.bool true)], args := [d] }
  | _ => none }
def emitTextsRow : OpenClaim := { program := "ytcfinfdkmpgaaaa", sum := "ca4805059b6443b6e256d4c3325a76fa2d71f98c2a5d30aaa66915b7e27b5de1", func := "bobbinet/bobbinetlaw.EmitTexts", spec := "emitTexts", inPlace := ["internal/abi.NoEscape"], unfollowed := true, recurses := true, apart := false }
def EmitTextsSaid : Prop := emitTextsRow.holds Try.pinned (OpenSpec.ofChange emitTextsSpec)

/-- ITS FALSE NEIGHBOUR: 'it returns false'. Refute it at one input. -/
def emitTextsWrong : ChangeSpec := { name := "emitTexts", fn := fun _ => fun
  | [d] => { results := [.lit (.bool false)], args := [d] }
  | _ => none }
def EmitTextsWrongFalsely : Prop := emitTextsRow.holds Try.pinned (OpenSpec.ofChange emitTextsWrong)

/-- 'bobbinetlaw.ExprPrints': WHATEVER THE INPUT: true; the input reads as it did. -/
def exprPrintsSpec : ChangeSpec := { name := "exprPrints", fn := fun _ => fun
  | [d] => { results := [.lit (.bool true)], args := [d] }
  | _ => none }
def exprPrintsRow : OpenClaim := { program := "ytcfinfdkmpgaaaa", sum := "ca4805059b6443b6e256d4c3325a76fa2d71f98c2a5d30aaa66915b7e27b5de1", func := "bobbinet/bobbinetlaw.ExprPrints", spec := "exprPrints", inPlace := ["internal/abi.NoEscape", "internal/bytealg.MakeNoZero"], unfollowed := true, recurses := true, loops := true, apart := false }
def ExprPrintsSaid : Prop := exprPrintsRow.holds Try.pinned (OpenSpec.ofChange exprPrintsSpec)

/-- ITS FALSE NEIGHBOUR: 'it returns false'. Refute it at one input. -/
def exprPrintsWrong : ChangeSpec := { name := "exprPrints", fn := fun _ => fun
  | [d] => { results := [.lit (.bool false)], args := [d] }
  | _ => none }
def ExprPrintsWrongFalsely : Prop := exprPrintsRow.holds Try.pinned (OpenSpec.ofChange exprPrintsWrong)

/-- 'bobbinetlaw.ShowTexts': WHATEVER THE INPUT: true; the input reads as it did. -/
def showTextsSpec : ChangeSpec := { name := "showTexts", fn := fun _ => fun
  | [d] => { results := [.lit (.bool true)], args := [d] }
  | _ => none }
def showTextsRow : OpenClaim := { program := "ytcfinfdkmpgaaaa", sum := "ca4805059b6443b6e256d4c3325a76fa2d71f98c2a5d30aaa66915b7e27b5de1", func := "bobbinet/bobbinetlaw.ShowTexts", spec := "showTexts", inPlace := ["internal/abi.NoEscape"], unfollowed := true, recurses := true, loops := true, apart := false }
def ShowTextsSaid : Prop := showTextsRow.holds Try.pinned (OpenSpec.ofChange showTextsSpec)

/-- ITS FALSE NEIGHBOUR: 'it returns false'. Refute it at one input. -/
def showTextsWrong : ChangeSpec := { name := "showTexts", fn := fun _ => fun
  | [d] => { results := [.lit (.bool false)], args := [d] }
  | _ => none }
def ShowTextsWrongFalsely : Prop := showTextsRow.holds Try.pinned (OpenSpec.ofChange showTextsWrong)

/- THE SECOND FORM. 'bulk': how many values and letters a reading holds, each counted each time it is reached (what is shared counts as often as it is met; a slice's spare places count too). A statement '..UptoSaid' is the law's where the arguments, and the package variables that the reading takes, are together of bulk at most 1048576: NARROWER than '..Said'. Prove '..Said' where nothing that the law and all that it calls make is longer than what came in: it says more and counts as full. Else prove '..UptoSaid'. A law counts once. -/
mutual
def uptoBulk {H : Type} : DataW H → Nat
  | .lit (.string bytes) => bytes.length + 1
  | .lit _ => 1
  | .nil => 1
  | .ptr d => uptoBulk d + 1
  | .slice elems spare => uptoBulkAll elems + uptoBulkAll spare + 1
  | .agg parts => uptoBulkAll parts + 1
  | .iface _ d => uptoBulk d + 1
  | .map entries => uptoBulkEntries entries + 1
  | .held _ => 1
def uptoBulkAll {H : Type} : List (DataW H) → Nat
  | [] => 0
  | d :: r => uptoBulk d + uptoBulkAll r
def uptoBulkEntries {H : Type} : List (Lit × DataW H) → Nat
  | [] => 0
  | x :: r => uptoBulkEntry x + uptoBulkEntries r
def uptoBulkEntry {H : Type} : Lit × DataW H → Nat
  | (.string bytes, d) => bytes.length + uptoBulk d + 1
  | (_, d) => uptoBulk d + 1
 end
def uptoSmall : (H : Type) → List (DataW H) → Bool := fun _ ds => decide (uptoBulkAll ds ≤ 1048576)
def OpenSpec.upto (s : _root_.Go.ChangeSpec) : _root_.Go.OpenSpec := { _root_.Go.OpenSpec.ofChange s with cond := some uptoSmall }

/-- 'bobbinetlaw.AutoCounts', WHERE WHAT IT READS IS OF BULK AT MOST 1048576: true; the input reads as it did. -/
def autoCountsUptoRow : OpenClaim := { program := "ytcfinfdkmpgaaaa", sum := "ca4805059b6443b6e256d4c3325a76fa2d71f98c2a5d30aaa66915b7e27b5de1", func := "bobbinet/bobbinetlaw.AutoCounts", spec := "autoCounts", unfollowed := true, recurses := true, apart := false, narrowed := true }
def AutoCountsUptoSaid : Prop := autoCountsUptoRow.holds Try.pinned (OpenSpec.upto autoCountsSpec)

/-- 'bobbinetlaw.AutoLeasts', WHERE WHAT IT READS IS OF BULK AT MOST 1048576: true; the input reads as it did. -/
def autoLeastsUptoRow : OpenClaim := { program := "ytcfinfdkmpgaaaa", sum := "ca4805059b6443b6e256d4c3325a76fa2d71f98c2a5d30aaa66915b7e27b5de1", func := "bobbinet/bobbinetlaw.AutoLeasts", spec := "autoLeasts", unfollowed := true, recurses := true, apart := false, narrowed := true }
def AutoLeastsUptoSaid : Prop := autoLeastsUptoRow.holds Try.pinned (OpenSpec.upto autoLeastsSpec)

/-- 'bobbinetlaw.RulesChecks', WHERE WHAT IT READS IS OF BULK AT MOST 1048576: true; the input reads as it did. -/
def rulesChecksUptoRow : OpenClaim := { program := "ytcfinfdkmpgaaaa", sum := "ca4805059b6443b6e256d4c3325a76fa2d71f98c2a5d30aaa66915b7e27b5de1", func := "bobbinet/bobbinetlaw.RulesChecks", spec := "rulesChecks", unfollowed := true, recurses := true, apart := false, narrowed := true }
def RulesChecksUptoSaid : Prop := rulesChecksUptoRow.holds Try.pinned (OpenSpec.upto rulesChecksSpec)

/-- 'bobbinetlaw.PickFinds', WHERE WHAT IT READS IS OF BULK AT MOST 1048576: true; the input reads as it did. -/
def pickFindsUptoRow : OpenClaim := { program := "ytcfinfdkmpgaaaa", sum := "ca4805059b6443b6e256d4c3325a76fa2d71f98c2a5d30aaa66915b7e27b5de1", func := "bobbinet/bobbinetlaw.PickFinds", spec := "pickFinds", unfollowed := true, recurses := true, loops := true, apart := false, narrowed := true }
def PickFindsUptoSaid : Prop := pickFindsUptoRow.holds Try.pinned (OpenSpec.upto pickFindsSpec)

/-- 'bobbinetlaw.PickTexts', WHERE WHAT IT READS IS OF BULK AT MOST 1048576: true; the input reads as it did. -/
def pickTextsUptoRow : OpenClaim := { program := "ytcfinfdkmpgaaaa", sum := "ca4805059b6443b6e256d4c3325a76fa2d71f98c2a5d30aaa66915b7e27b5de1", func := "bobbinet/bobbinetlaw.PickTexts", spec := "pickTexts", inPlace := ["internal/abi.NoEscape"], unfollowed := true, recurses := true, apart := false, narrowed := true }
def PickTextsUptoSaid : Prop := pickTextsUptoRow.holds Try.pinned (OpenSpec.upto pickTextsSpec)

/-- 'bobbinetlaw.EmitChecks', WHERE WHAT IT READS IS OF BULK AT MOST 1048576: true; the input reads as it did. -/
def emitChecksUptoRow : OpenClaim := { program := "ytcfinfdkmpgaaaa", sum := "ca4805059b6443b6e256d4c3325a76fa2d71f98c2a5d30aaa66915b7e27b5de1", func := "bobbinet/bobbinetlaw.EmitChecks", spec := "emitChecks", unfollowed := true, recurses := true, apart := false, narrowed := true }
def EmitChecksUptoSaid : Prop := emitChecksUptoRow.holds Try.pinned (OpenSpec.upto emitChecksSpec)

/-- 'bobbinetlaw.ShowChecks', WHERE WHAT IT READS IS OF BULK AT MOST 1048576: true; the input reads as it did. -/
def showChecksUptoRow : OpenClaim := { program := "ytcfinfdkmpgaaaa", sum := "ca4805059b6443b6e256d4c3325a76fa2d71f98c2a5d30aaa66915b7e27b5de1", func := "bobbinet/bobbinetlaw.ShowChecks", spec := "showChecks", unfollowed := true, recurses := true, loops := true, apart := false, narrowed := true }
def ShowChecksUptoSaid : Prop := showChecksUptoRow.holds Try.pinned (OpenSpec.upto showChecksSpec)

/-- 'bobbinetlaw.ExprChecks', WHERE WHAT IT READS IS OF BULK AT MOST 1048576: true; the input reads as it did. -/
def exprChecksUptoRow : OpenClaim := { program := "ytcfinfdkmpgaaaa", sum := "ca4805059b6443b6e256d4c3325a76fa2d71f98c2a5d30aaa66915b7e27b5de1", func := "bobbinet/bobbinetlaw.ExprChecks", spec := "exprChecks", inPlace := ["internal/abi.NoEscape", "internal/bytealg.MakeNoZero"], unfollowed := true, recurses := true, loops := true, apart := false, narrowed := true }
def ExprChecksUptoSaid : Prop := exprChecksUptoRow.holds Try.pinned (OpenSpec.upto exprChecksSpec)

/-- 'bobbinetlaw.EmitTexts', WHERE WHAT IT READS IS OF BULK AT MOST 1048576: true; the input reads as it did. -/
def emitTextsUptoRow : OpenClaim := { program := "ytcfinfdkmpgaaaa", sum := "ca4805059b6443b6e256d4c3325a76fa2d71f98c2a5d30aaa66915b7e27b5de1", func := "bobbinet/bobbinetlaw.EmitTexts", spec := "emitTexts", inPlace := ["internal/abi.NoEscape"], unfollowed := true, recurses := true, apart := false, narrowed := true }
def EmitTextsUptoSaid : Prop := emitTextsUptoRow.holds Try.pinned (OpenSpec.upto emitTextsSpec)

/-- 'bobbinetlaw.ExprPrints', WHERE WHAT IT READS IS OF BULK AT MOST 1048576: true; the input reads as it did. -/
def exprPrintsUptoRow : OpenClaim := { program := "ytcfinfdkmpgaaaa", sum := "ca4805059b6443b6e256d4c3325a76fa2d71f98c2a5d30aaa66915b7e27b5de1", func := "bobbinet/bobbinetlaw.ExprPrints", spec := "exprPrints", inPlace := ["internal/abi.NoEscape", "internal/bytealg.MakeNoZero"], unfollowed := true, recurses := true, loops := true, apart := false, narrowed := true }
def ExprPrintsUptoSaid : Prop := exprPrintsUptoRow.holds Try.pinned (OpenSpec.upto exprPrintsSpec)

/-- 'bobbinetlaw.ShowTexts', WHERE WHAT IT READS IS OF BULK AT MOST 1048576: true; the input reads as it did. -/
def showTextsUptoRow : OpenClaim := { program := "ytcfinfdkmpgaaaa", sum := "ca4805059b6443b6e256d4c3325a76fa2d71f98c2a5d30aaa66915b7e27b5de1", func := "bobbinet/bobbinetlaw.ShowTexts", spec := "showTexts", inPlace := ["internal/abi.NoEscape"], unfollowed := true, recurses := true, loops := true, apart := false, narrowed := true }
def ShowTextsUptoSaid : Prop := showTextsUptoRow.holds Try.pinned (OpenSpec.upto showTextsSpec)

end Rows
end Go.Proofs.Ytcfinfdkmpgaaaa
