/- The statement ShowChecks, where what it reads is of bulk at most 1048576: every such input. No conditions. -/
import Derived.Test.YtcfinfdkmpgaaaaShow
set_option linter.unusedSimpArgs false
set_option linter.unusedVariables false
set_option maxRecDepth 100000
namespace Go.Proofs.Ytcfinfdkmpgaaaa
open Go.ChangeShapes Go.WideShapes Go.ChangeAt Go.RowKit

theorem showChecks_holds : Rows.ShowChecksUptoSaid :=
  OpenClaim.holds_of_cond 9 Try.f9 rfl rfl rfl rfl rfl rfl rfl ⟨rfl, rfl, rfl, rfl, rfl⟩ rfl rfl rfl rfl rfl (by kernel_rfl) Try.func9 (by kernel_rfl)
    (of_decide_eq_true (by kernel_rfl)) (by unfold Func.isWrapper; first | (rw [if_pos (by decide +kernel)]; kernel_rfl) | (rw [if_neg (by decide +kernel)]; exact ⟨rfl, rfl⟩))
    (fun os started H enc _ F => frame_upto (s := Rows.showChecksSpec) started (by kernel_rfl) Try.func9 (bt := 4) (by kernel_rfl) rfl rfl (by kernel_rfl) (fun ds hd => by
        cases ds with
        | nil => cases hd
        | cons d ds => cases ds with
          | nil => rfl
          | cons _ _ => cases hd) F
      (OpenSpec.witness (enc := enc) (C := Try.checked) (s := Rows.OpenSpec.upto Rows.showChecksSpec) (k := Rows.uptoSmall) rfl false ⟨#[], #[.slice none 0 0], []⟩ 8 (by kernel_rfl) (by kernel_rfl) (by kernel_rfl)
        (x := ([.nil], [], [])) (by kernel_rfl) rfl (by kernel_rfl)) showChecks_core)
end Go.Proofs.Ytcfinfdkmpgaaaa
