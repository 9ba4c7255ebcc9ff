/- The statement Names: every input. No conditions. -/
import Derived.Test.YteabokphchpifaaFrame
import Derived.Test.YteabokphchpifaaNames
namespace Go.Proofs.Yteabokphchpifaa
open Go.ChangeShapes Go.WideShapes Go.ChangeAt Go.RowKit

theorem names_core : LawCore 3 Try.f3.params.toList (Reached Try.prog Try.f3.params.toList) := by
  intro H enc W args ds ps hA hlt hok
  have hA' : DataW.TrodAll enc Try.prog W 0 (fun _ => true) true [] args.toList ds ps := hA
  obtain ⟨rfl, rfl, rfl⟩ := trodAll_none hA'
  exact names_walk W

theorem names_holds : Rows.NamesSaid :=
  OpenClaim.holds_of_wide 3 Try.f3 rfl rfl rfl rfl rfl rfl rfl ⟨rfl, rfl, rfl, rfl, rfl⟩ rfl rfl rfl rfl rfl (by kernel_rfl) Try.func3 (by kernel_rfl)
    (of_decide_eq_true (by kernel_rfl)) (by unfold Func.isWrapper; first | (rw [if_pos (by decide +kernel)]; kernel_rfl) | (rw [if_neg (by decide +kernel)]; exact ⟨rfl, rfl⟩))
    (fun os started H enc _ => frame_said (s := Rows.namesSpec) started (by kernel_rfl) Try.func3 (bt := 4) (by kernel_rfl) rfl rfl (by kernel_rfl) (fun ds hd => by cases ds with | nil => rfl | cons d ds => cases hd)
      (ChangeSpec.witness6 (enc := enc) (C := Try.checked) false ⟨#[], #[], []⟩ 8 (by kernel_rfl) (by kernel_rfl) (by kernel_rfl) (by kernel_rfl)) names_core)
end Go.Proofs.Yteabokphchpifaa
