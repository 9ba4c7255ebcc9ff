/- The statement AutoRuns: every input. No conditions. -/
import Derived.Test.YteabokphchpifaaAutoRuns
import Derived.Test.YteabokphchpifaaAutoMaysEnd
set_option linter.unusedSimpArgs false
set_option linter.unusedVariables false
namespace Go.Proofs.Yteabokphchpifaa
open Go.ChangeShapes Go.WideShapes Go.ChangeAt Go.RowKit

theorem autoRuns_core : LawCore 11 Try.f11.params.toList (Reached Try.prog Try.f11.params.toList) := by
  refine core_of fun H enc W base args ds ps hval hA hlt _ => ?_
  obtain ⟨a, v, vs, d, ds', q, rfl, rfl, hp, _, _, hA', hlt', hval'⟩ := argS (t := 37) (ts := [24]) hval hA hlt reads_auto (by kernel_rfl)
  obtain ⟨w, v', vs', d', ds'', q', rfl, rfl, hp', _, _, hA'', _, _⟩ := arg1 (t := 24) (ts := []) hval' hA' hlt' reads_ints ⟨fun _ => rfl, by kernel_rfl⟩
  obtain ⟨rfl, rfl⟩ := arg0 hA''
  exact ⟨_, args_cons hp (args_cons hp' args_nil), autoRuns_law a.1 a.2.1 w⟩

theorem autoRuns_holds : Rows.AutoRunsSaid :=
  OpenClaim.holds_of_wide 11 Try.f11 rfl rfl rfl rfl rfl rfl rfl ⟨rfl, rfl, rfl, rfl, rfl⟩ rfl rfl rfl rfl rfl (by kernel_rfl) Try.func11 (by kernel_rfl)
    (of_decide_eq_true (by kernel_rfl)) (by unfold Func.isWrapper; first | (rw [if_pos (by decide +kernel)]; kernel_rfl) | (rw [if_neg (by decide +kernel)]; exact ⟨rfl, rfl⟩))
    (fun os started H enc _ => frame_said (s := Rows.autoRunsSpec) started (by kernel_rfl) Try.func11 (bt := 4) (by kernel_rfl) rfl rfl (by kernel_rfl) (fun ds hd => by
        match ds, hd with
        | [_, _], _ => rfl)
      (ChangeSpec.witness6 (enc := enc) (C := Try.checked) false ⟨#[], #[.agg #[.slice none 0 0, .slice none 0 0], .slice none 0 0], []⟩ 8 (by kernel_rfl) (by kernel_rfl) (by kernel_rfl) (by kernel_rfl)) autoRuns_core)
end Go.Proofs.Yteabokphchpifaa
