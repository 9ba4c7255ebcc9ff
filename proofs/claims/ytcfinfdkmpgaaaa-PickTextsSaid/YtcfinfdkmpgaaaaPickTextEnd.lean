/- The statement PickTexts: every input. No conditions. -/
import Derived.Test.YtcfinfdkmpgaaaaPickText
set_option linter.unusedSimpArgs false
set_option linter.unusedVariables false
set_option maxRecDepth 100000
namespace Go.Proofs.Ytcfinfdkmpgaaaa
open Go.ChangeShapes Go.WideShapes Go.ChangeAt Go.RowKit

theorem reads_pick (n : Nat) : Reads Try.prog 79 pickA (fun _ => True) (fun _ => 0) n := by
  cases n with
  | zero => exact Reads.zero
  | succ n =>
    obtain ⟨fs, hu, hs⟩ := fields_of (P := Try.prog) (t := 79) (sig := [(9, 0), (9, 1), (4, 2)]) (by kernel_rfl)
    obtain ⟨f0, r0, rfl, t0, o0, hs⟩ := fields_cons hs
    obtain ⟨f1, r1, rfl, t1, o1, hs⟩ := fields_cons hs
    obtain ⟨f2, r2, rfl, t2, o2, hs⟩ := fields_cons hs
    obtain rfl := fields_nil hs
    refine (reads_struct (L := 3) hu cells_79 (g := fun x : List UInt8 × List UInt8 × Bool × Unit => (V.str x.1).cells ++ ((V.str x.2.1).cells ++ ((V.bool x.2.2.1).cells ++ []))) (fun _ => rfl)
      (reads_fs_cons (f := V.str) (z := 1) o0 (by rw [t0]; exact cells_9) (fun _ => rfl) (by rw [t0]; exact reads_str (by kernel_rfl) n)
        (reads_fs_cons (f := V.str) (z := 1) o1 (by rw [t1]; exact cells_9) (fun _ => rfl) (by rw [t1]; exact reads_str (by kernel_rfl) n)
          (reads_fs_cons (f := V.bool) (z := 1) o2 (by rw [t2]; exact cells_4) (fun _ => rfl) (by rw [t2]; exact reads_bool (by kernel_rfl) n) reads_fs_nil)))).as (fun x => ((x.1, x.2.1, x.2.2.1) : Pk)) (fun _ => rfl) (fun _ _ => trivial) (fun _ => Nat.zero_le _)
theorem reads_picks (n : Nat) : Reads Try.prog 38 (fun l : List Pk => .lst (l.map pickA)) (fun _ => True) (fun _ => 0) n := by
  cases n with
  | zero => exact Reads.zero
  | succ n => exact (reads_slice (f := pickA) (z := 3) (by kernel_rfl) cells_79 (fun _ => rfl) (by simp) (reads_pick n)).as id (fun _ => rfl) (fun _ _ => trivial) (fun _ => Nat.zero_le _)

theorem pickTexts_core : LawCore 7 Try.f7.params.toList (Reached Try.prog Try.f7.params.toList) := by
  refine core_of fun H enc W base args ds ps hval hA hlt _ => ?_
  obtain ⟨a, v, vs, d, ds', q, rfl, rfl, hp, _, _, hA', _, _⟩ := arg1 (t := 38) (ts := []) hval hA hlt reads_picks ⟨fun _ => rfl, by kernel_rfl⟩
  obtain ⟨rfl, rfl⟩ := arg0 hA'
  exact ⟨_, args_cons hp args_nil, pickTexts_law a⟩

theorem pickTexts_holds : Rows.PickTextsSaid :=
  OpenClaim.holds_of_wide 7 Try.f7 rfl rfl rfl rfl rfl rfl rfl ⟨rfl, rfl, rfl, rfl, rfl⟩ rfl rfl rfl rfl rfl (by kernel_rfl) Try.func7 (by kernel_rfl)
    (of_decide_eq_true (by kernel_rfl)) (by unfold Func.isWrapper; first | (rw [if_pos (by decide +kernel)]; kernel_rfl) | (rw [if_neg (by decide +kernel)]; exact ⟨rfl, rfl⟩))
    (fun os started H enc _ => frame_said (s := Rows.pickTextsSpec) started (by kernel_rfl) Try.func7 (bt := 4) (by kernel_rfl) rfl rfl (by kernel_rfl) (fun ds hd => by
        match ds, hd with
        | [_], _ => rfl)
      (ChangeSpec.witness6 (enc := enc) (C := Try.checked) false ⟨#[], #[.slice none 0 0], []⟩ 8 (by kernel_rfl) (by kernel_rfl) (by kernel_rfl) (by kernel_rfl)) pickTexts_core)
end Go.Proofs.Ytcfinfdkmpgaaaa
