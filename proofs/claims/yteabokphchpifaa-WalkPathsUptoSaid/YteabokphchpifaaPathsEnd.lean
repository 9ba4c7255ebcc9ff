/- The statement WalkPaths, where what it reads is of bulk at most 1048576: every such input. No conditions. -/
import Derived.Test.YteabokphchpifaaPathsD
set_option linter.unusedSimpArgs false
set_option linter.unusedVariables false
set_option maxRecDepth 100000
namespace Go.Proofs.Yteabokphchpifaa
open Go.ChangeShapes Go.WideShapes Go.ChangeAt Go.RowKit

theorem walkPaths_core : LawCore 6 Try.f6.params.toList (fun H ds => Rows.uptoSmall H ds = true) := by
  refine core_of fun H enc W base args ds ps hval hA hlt hok => ?_
  obtain ⟨a, v, vs, d, ds', q, rfl, rfl, hp, _, hsz, hA', _, _⟩ := arg1 (t := 29) (ts := []) hval hA hlt reads_nodes ⟨fun _ => rfl, by kernel_rfl⟩
  obtain ⟨rfl, rfl⟩ := arg0 hA'
  have hb : Rows.uptoBulk d ≤ 1048576 := by
    simpa [Rows.uptoSmall, Rows.uptoBulkAll] using of_decide_eq_true hok
  exact ⟨_, args_cons hp args_nil, walkPaths_law a (by omega)⟩

theorem walkPaths_holds : Rows.WalkPathsUptoSaid :=
  OpenClaim.holds_of_cond 6 Try.f6 rfl rfl rfl rfl rfl rfl rfl ⟨rfl, rfl, rfl, rfl, rfl⟩ rfl rfl rfl rfl rfl (by kernel_rfl) Try.func6 (by kernel_rfl)
    (of_decide_eq_true (by kernel_rfl)) (by unfold Func.isWrapper; first | (rw [if_pos (by decide +kernel)]; kernel_rfl) | (rw [if_neg (by decide +kernel)]; exact ⟨rfl, rfl⟩))
    (fun os started H enc _ F => frame_upto (s := Rows.walkPathsSpec) started (by kernel_rfl) Try.func6 (bt := 4) (by kernel_rfl) rfl rfl (by kernel_rfl) (fun ds hd => by
        match ds, hd with
        | [_], _ => rfl) F
      (OpenSpec.witness (enc := enc) (C := Try.checked) (s := Rows.OpenSpec.upto Rows.walkPathsSpec) (k := Rows.uptoSmall) rfl false ⟨#[], #[.slice none 0 0], []⟩ 8 (by kernel_rfl) (by kernel_rfl) (by kernel_rfl)
        (x := ([.nil], [], [])) (by kernel_rfl) rfl (by kernel_rfl)) walkPaths_core)
end Go.Proofs.Yteabokphchpifaa
