/- The statement AutoMays: every input. No conditions. -/
import Derived.Test.YteabokphchpifaaAutoMays
set_option linter.unusedSimpArgs false
set_option linter.unusedVariables false
namespace Go.Proofs.Yteabokphchpifaa
open Go.ChangeShapes Go.WideShapes Go.ChangeAt Go.RowKit

theorem reads_ints (n : Nat) : Reads Try.prog 24 ints (fun _ => True) (fun _ => 0) n := by
  cases n with
  | zero => exact Reads.zero
  | succ n => exact (reads_slice (f := V.int .i64) (z := 1) (by kernel_rfl) cells_3 (fun _ => rfl) (by simp) (reads_int (k := .i64) (by kernel_rfl) n)).as id (fun _ => rfl) (fun _ _ => trivial) (fun _ => Nat.zero_le _)
theorem reads_rows (n : Nat) : Reads Try.prog 33 (fun T : List (List Int) => .lst (T.map ints)) (fun _ => True) (fun _ => 0) n := by
  cases n with
  | zero => exact Reads.zero
  | succ n => exact (reads_slice (f := ints) (z := 1) (by kernel_rfl) cells_24 (fun _ => rfl) (by simp) (reads_ints n)).as id (fun _ => rfl) (fun _ _ => trivial) (fun _ => Nat.zero_le _)
theorem reads_bools (n : Nat) : Reads Try.prog 35 (fun F : List Bool => .lst (F.map V.bool)) (fun _ => True) (fun _ => 0) n := by
  cases n with
  | zero => exact Reads.zero
  | succ n => exact (reads_slice (f := V.bool) (z := 1) (by kernel_rfl) cells_4 (fun _ => rfl) (by simp) (reads_bool (by kernel_rfl) n)).as id (fun _ => rfl) (fun _ _ => trivial) (fun _ => Nat.zero_le _)

theorem reads_auto (n : Nat) : Reads Try.prog 37 (fun x : List (List Int) × List Bool × Unit => .agg [.lst (x.1.map ints), .lst (x.2.1.map V.bool)]) (fun _ => True) (fun _ => 0) n := by
  cases n with
  | zero => exact Reads.zero
  | succ n =>
    obtain ⟨fs, hu, hs⟩ := fields_of (P := Try.prog) (t := 37) (sig := [(33, 0), (35, 1)]) (by kernel_rfl)
    obtain ⟨f0, r0, rfl, t0, o0, hs⟩ := fields_cons hs
    obtain ⟨f1, r1, rfl, t1, o1, hs⟩ := fields_cons hs
    obtain rfl := fields_nil hs
    refine (reads_struct (L := 2) hu cells_37 (g := fun x : List (List Int) × List Bool × Unit => (V.lst (x.1.map ints)).cells ++ ((V.lst (x.2.1.map V.bool)).cells ++ [])) (fun _ => rfl)
      (reads_fs_cons (f := fun T : List (List Int) => .lst (T.map ints)) (z := 1) o0 (by rw [t0]; exact cells_33) (fun _ => rfl) (by rw [t0]; exact reads_rows n)
        (reads_fs_cons (f := fun F : List Bool => .lst (F.map V.bool)) (z := 1) o1 (by rw [t1]; exact cells_35) (fun _ => rfl) (by rw [t1]; exact reads_bools n) reads_fs_nil))).as id (fun _ => rfl) (fun _ _ => trivial) (fun _ => Nat.zero_le _)

theorem autoMays_core : LawCore 7 Try.f7.params.toList (Reached Try.prog Try.f7.params.toList) := by
  refine core_of fun H enc W base args ds ps hval hA hlt _ => ?_
  obtain ⟨a, v, vs, d, ds', q, rfl, rfl, hp, _, _, hA', _, _⟩ := argS (t := 37) (ts := []) hval hA hlt reads_auto (by kernel_rfl)
  obtain ⟨rfl, rfl⟩ := arg0 hA'
  exact ⟨_, args_cons hp args_nil, autoMays_law a.1 a.2.1⟩

theorem autoMays_holds : Rows.AutoMaysSaid :=
  OpenClaim.holds_of_wide 7 Try.f7 rfl rfl rfl rfl rfl rfl rfl ⟨rfl, rfl, rfl, rfl, rfl⟩ rfl rfl rfl rfl rfl (by kernel_rfl) Try.func7 (by kernel_rfl)
    (of_decide_eq_true (by kernel_rfl)) (by unfold Func.isWrapper; first | (rw [if_pos (by decide +kernel)]; kernel_rfl) | (rw [if_neg (by decide +kernel)]; exact ⟨rfl, rfl⟩))
    (fun os started H enc _ => frame_said (s := Rows.autoMaysSpec) started (by kernel_rfl) Try.func7 (bt := 4) (by kernel_rfl) rfl rfl (by kernel_rfl) (fun ds hd => by
        cases ds with
        | nil => cases hd
        | cons d ds => cases ds with
          | nil => rfl
          | cons _ _ => cases hd)
      (ChangeSpec.witness6 (enc := enc) (C := Try.checked) false ⟨#[], #[.agg #[.slice none 0 0, .slice none 0 0]], []⟩ 8 (by kernel_rfl) (by kernel_rfl) (by kernel_rfl) (by kernel_rfl)) autoMays_core)
end Go.Proofs.Yteabokphchpifaa
