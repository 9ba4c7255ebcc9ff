/- Attributes and tokens as arguments. No conditions. -/
import Derived.Test.YtcfinfdkmpgaaaaEmit
set_option linter.unusedSimpArgs false
set_option linter.unusedVariables false
set_option maxRecDepth 100000
namespace Go.Proofs.Ytcfinfdkmpgaaaa
open Go.RowKit
theorem reads_att (n : Nat) : Reads Try.prog 116 attA (fun _ => True) (fun _ => 0) n := by
  cases n with
  | zero => exact Reads.zero
  | succ n =>
    obtain ⟨fs, hu, hs⟩ := fields_of (P := Try.prog) (t := 116) (sig := [(9, 0), (9, 1)]) (by kernel_rfl)
    obtain ⟨f0, r0, rfl, t0, o0, hs⟩ := fields_cons hs
    obtain ⟨f1, r1, rfl, t1, o1, hs⟩ := fields_cons hs
    obtain rfl := fields_nil hs
    exact ((reads_struct (L := 2) hu cells_116 (g := fun x : List UInt8 × List UInt8 × Unit => ((V.str x.1).cells ++ ((V.str x.2.1).cells ++ []))) (fun _ => rfl) (reads_fs_cons (f := V.str) (z := 1) o0 (by rw [t0]; exact cells_9) (fun _ => rfl) (by rw [t0]; exact reads_str (by kernel_rfl) n) (reads_fs_cons (f := V.str) (z := 1) o1 (by rw [t1]; exact cells_9) (fun _ => rfl) (by rw [t1]; exact reads_str (by kernel_rfl) n) reads_fs_nil)))).as (fun x => (⟨x.1, x.2.1⟩ : Atr)) (fun _ => rfl) (fun _ _ => trivial) (fun _ => Nat.zero_le _)
theorem reads_atts (n : Nat) : Reads Try.prog 74 (fun l => .lst (List.map attA l)) (fun _ => True) (fun _ => 0) n := by
  cases n with
  | zero => exact Reads.zero
  | succ n => exact (reads_slice (f := attA) (z := 2) (by kernel_rfl) cells_116 (fun _ => rfl) (by simp) (reads_att n)).as id (fun _ => rfl) (fun _ _ => trivial) (fun _ => Nat.zero_le _)
theorem reads_tok (n : Nat) : Reads Try.prog 81 tokA (fun _ => True) (fun _ => 0) n := by
  cases n with
  | zero => exact Reads.zero
  | succ n =>
    obtain ⟨fs, hu, hs⟩ := fields_of (P := Try.prog) (t := 81) (sig := [(3, 0), (9, 1), (74, 2), (4, 3), (9, 4)]) (by kernel_rfl)
    obtain ⟨f0, r0, rfl, t0, o0, hs⟩ := fields_cons hs
    obtain ⟨f1, r1, rfl, t1, o1, hs⟩ := fields_cons hs
    obtain ⟨f2, r2, rfl, t2, o2, hs⟩ := fields_cons hs
    obtain ⟨f3, r3, rfl, t3, o3, hs⟩ := fields_cons hs
    obtain ⟨f4, r4, rfl, t4, o4, hs⟩ := fields_cons hs
    obtain rfl := fields_nil hs
    exact ((reads_struct (L := 5) hu cells_81 (g := fun x : Int × List UInt8 × List Atr × Bool × List UInt8 × Unit => ((V.int .i64 x.1).cells ++ ((V.str x.2.1).cells ++ (((fun l => V.lst (List.map attA l)) x.2.2.1).cells ++ ((V.bool x.2.2.2.1).cells ++ ((V.str x.2.2.2.2.1).cells ++ [])))))) (fun _ => rfl) (reads_fs_cons (f := V.int .i64) (z := 1) o0 (by rw [t0]; exact cells_3) (fun _ => rfl) (by rw [t0]; exact reads_int (k := .i64) (by kernel_rfl) n) (reads_fs_cons (f := V.str) (z := 1) o1 (by rw [t1]; exact cells_9) (fun _ => rfl) (by rw [t1]; exact reads_str (by kernel_rfl) n) (reads_fs_cons (f := (fun l => V.lst (List.map attA l))) (z := 1) o2 (by rw [t2]; exact cells_74) (fun _ => rfl) (by rw [t2]; exact reads_atts n) (reads_fs_cons (f := V.bool) (z := 1) o3 (by rw [t3]; exact cells_4) (fun _ => rfl) (by rw [t3]; exact reads_bool (by kernel_rfl) n) (reads_fs_cons (f := V.str) (z := 1) o4 (by rw [t4]; exact cells_9) (fun _ => rfl) (by rw [t4]; exact reads_str (by kernel_rfl) n) reads_fs_nil))))))).as (fun x => (⟨x.1, x.2.1, x.2.2.1, x.2.2.2.1, x.2.2.2.2.1⟩ : Tk)) (fun _ => rfl) (fun _ _ => trivial) (fun _ => Nat.zero_le _)
theorem reads_toks (n : Nat) : Reads Try.prog 46 (fun l => .lst (List.map tokA l)) (fun _ => True) (fun _ => 0) n := by
  cases n with
  | zero => exact Reads.zero
  | succ n => exact (reads_slice (f := tokA) (z := 5) (by kernel_rfl) cells_81 (fun _ => rfl) (by simp) (reads_tok n)).as id (fun _ => rfl) (fun _ _ => trivial) (fun _ => Nat.zero_le _)
end Go.Proofs.Ytcfinfdkmpgaaaa
