/- Lists of strings, runs and lists of runs, read; what an upto row owes. No conditions. -/
import Derived.Test.YtkkcmobnhiiacaaDoorMNormB
import Derived.Test.YtkkcmobnhiiacaaDoorFrameL
import Derived.Test.YtkkcmobnhiiacaaDoorCards
set_option linter.unusedSimpArgs false
set_option linter.unusedVariables false
set_option maxRecDepth 100000
namespace Go.Proofs.YtkkcmobnhiiacaaDoor
open Go.ChangeShapes Go.WideShapes Go.ChangeAt Go.RowKit

theorem reads_strs (n : Nat) : Reads Tryd.prog 22 (fun l : List (List UInt8) => .lst (l.map V.str)) (fun _ => True) (fun _ => 0) n := by
  cases n with
  | zero => exact Reads.zero
  | succ n => exact (reads_slice (f := V.str) (z := 1) (by kernel_rfl) cells_9 (fun _ => rfl) (by simp) (reads_str (by kernel_rfl) n)).as id (fun _ => rfl) (fun _ _ => trivial) (fun _ => Nat.zero_le _)
theorem reads_rn (n : Nat) : Reads Tryd.prog 53 rnA (fun _ => True) (fun r => r.text.length) n := by
  cases n with
  | zero => exact Reads.zero
  | succ n =>
    obtain ⟨fs, hu, hs⟩ := fields_of (P := Tryd.prog) (t := 53) (sig := [(9, 0), (22, 1)]) (by kernel_rfl)
    obtain ⟨f0, r0, rfl, t0, o0, hs⟩ := fields_cons hs
    obtain ⟨f1, r1, rfl, t1, o1, hs⟩ := fields_cons hs
    obtain rfl := fields_nil hs
    refine (reads_struct (L := 2) hu cells_53 (g := fun x : List UInt8 × List (List UInt8) × Unit => (V.str x.1).cells ++ ((V.lst (x.2.1.map V.str)).cells ++ [])) (fun _ => rfl)
      (reads_fs_cons (f := V.str) (z := 1) o0 (by rw [t0]; exact cells_9) (fun _ => rfl) (by rw [t0]; exact reads_str (by kernel_rfl) n)
        (reads_fs_cons (f := fun l : List (List UInt8) => V.lst (l.map V.str)) (z := 1) o1 (by rw [t1]; exact cells_22) (fun _ => rfl) (by rw [t1]; exact reads_strs n) reads_fs_nil))).as (fun x => (⟨x.1, x.2.1⟩ : Rn)) (fun _ => rfl) (fun _ _ => trivial) (fun _ => by simp; omega)
theorem reads_runs (n : Nat) : Reads Tryd.prog 23 (fun l : List Rn => .lst (l.map rnA)) (fun _ => True) (fun l => sumT l) n := by
  cases n with
  | zero => exact Reads.zero
  | succ n => exact (reads_slice (f := rnA) (z := 2) (by kernel_rfl) cells_53 (fun _ => rfl) (by simp) (reads_rn n)).as id (fun _ => rfl) (fun _ _ => trivial) (fun l => by simp [sumT])
theorem args_small2 {H : Type} {d e : DataW H} (h : Rows.uptoSmall H [d, e] = true) : Rows.uptoBulk d + Rows.uptoBulk e ≤ 1048576 := by
  have := of_decide_eq_true h
  simpa [Rows.uptoBulkAll] using this
end Go.Proofs.YtkkcmobnhiiacaaDoor
