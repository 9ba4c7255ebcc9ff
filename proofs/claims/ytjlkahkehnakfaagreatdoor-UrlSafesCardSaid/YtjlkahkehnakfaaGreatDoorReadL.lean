/- Lists of strings, read, each within the reach. No conditions. -/
import Derived.Test.YtjlkahkehnakfaaGreatDoorReadS
set_option linter.unusedSimpArgs false
set_option linter.unusedVariables false
set_option maxRecDepth 100000
namespace Go.Proofs.YtjlkahkehnakfaaGreatDoor
open Go.ChangeShapes Go.WideShapes Go.ChangeAt Go.RowKit

theorem reads_strs_w (n : Nat) : ReadsW Tryz.prog 22 (fun l : List (List UInt8) => .lst (l.map V.str)) (fun l => ∀ x ∈ l, x.length ≤ 140737488351232) (fun _ => 0) n := by
  cases n with
  | zero => exact ReadsW.zero
  | succ n => exact (reads_slice_w (f := V.str) (z := 1) (by kernel_rfl) cells_9 (fun _ => rfl) (by simp) (reads_str_s (by kernel_rfl) n)).as id (fun _ => rfl) (fun _ h => h.2) (fun _ => Nat.zero_le _)
end Go.Proofs.YtjlkahkehnakfaaGreatDoor
