/- Machines as they are read from the input. No conditions. -/
import Derived.Test.YtmjglpdfkkmcoaaLaw
set_option linter.unusedSimpArgs false
set_option linter.unusedVariables false
set_option maxRecDepth 100000
namespace Go.Proofs.Ytmjglpdfkkmcoaa
open Go.ChangeShapes Go.WideShapes Go.ChangeAt Go.RowKit

theorem reads_ints (n : Nat) : Reads Try.prog 43 ints (fun _ => True) (fun _ => 0) n := by
  cases n with
  | zero => exact Reads.zero
  | succ n => exact (reads_slice (f := V.int .i64) (z := 1) (by kernel_rfl) cells_3 (fun _ => rfl) (by simp) (reads_int (k := .i64) (by kernel_rfl) n)).as id (fun _ => rfl) (fun _ _ => trivial) (fun _ => Nat.zero_le _)
theorem reads_rows (n : Nat) : Reads Try.prog 22 (fun T : List (List Int) => .lst (T.map ints)) (fun _ => True) (fun _ => 0) n := by
  cases n with
  | zero => exact Reads.zero
  | succ n => exact (reads_slice (f := ints) (z := 1) (by kernel_rfl) cells_43 (fun _ => rfl) (by simp) (reads_ints n)).as id (fun _ => rfl) (fun _ _ => trivial) (fun _ => Nat.zero_le _)
theorem reads_bools (n : Nat) : Reads Try.prog 23 (fun F : List Bool => .lst (F.map V.bool)) (fun _ => True) (fun _ => 0) n := by
  cases n with
  | zero => exact Reads.zero
  | succ n => exact (reads_slice (f := V.bool) (z := 1) (by kernel_rfl) cells_4 (fun _ => rfl) (by simp) (reads_bool (by kernel_rfl) n)).as id (fun _ => rfl) (fun _ _ => trivial) (fun _ => Nat.zero_le _)

theorem reads_auto (n : Nat) : Reads Try.prog 25 (fun x : List (List Int) × List Bool × Unit => .agg [.lst (x.1.map ints), .lst (x.2.1.map V.bool)]) (fun _ => True) (fun _ => 0) n := by
  cases n with
  | zero => exact Reads.zero
  | succ n =>
    obtain ⟨fs, hu, hs⟩ := fields_of (P := Try.prog) (t := 25) (sig := [(22, 0), (23, 1)]) (by kernel_rfl)
    obtain ⟨f0, r0, rfl, t0, o0, hs⟩ := fields_cons hs
    obtain ⟨f1, r1, rfl, t1, o1, hs⟩ := fields_cons hs
    obtain rfl := fields_nil hs
    refine (reads_struct (L := 2) hu cells_25 (g := fun x : List (List Int) × List Bool × Unit => (V.lst (x.1.map ints)).cells ++ ((V.lst (x.2.1.map V.bool)).cells ++ [])) (fun _ => rfl)
      (reads_fs_cons (f := fun T : List (List Int) => .lst (T.map ints)) (z := 1) o0 (by rw [t0]; exact cells_22) (fun _ => rfl) (by rw [t0]; exact reads_rows n)
        (reads_fs_cons (f := fun F : List Bool => .lst (F.map V.bool)) (z := 1) o1 (by rw [t1]; exact cells_23) (fun _ => rfl) (by rw [t1]; exact reads_bools n) reads_fs_nil))).as id (fun _ => rfl) (fun _ _ => trivial) (fun _ => Nat.zero_le _)

end Go.Proofs.Ytmjglpdfkkmcoaa
