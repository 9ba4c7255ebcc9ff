/- The statement WalkInverts: every input. No conditions. -/
import Derived.Test.YtkkcmobnhiiacaaPlayRd
import Derived.Test.YtkkcmobnhiiacaaInvM
set_option linter.unusedSimpArgs false
set_option linter.unusedVariables false
set_option maxRecDepth 100000
namespace Go.Proofs.Ytkkcmobnhiiacaa
open Go.ChangeShapes Go.WideShapes Go.ChangeAt Go.RowKit

theorem walkInverts_core : LawCore 3 Try.f3.params.toList (Reached Try.prog Try.f3.params.toList) := by
  refine core_of fun H enc W base args ds ps hval hA hlt hok => ?_
  obtain ⟨a, v, vs, d, ds', q, rfl, rfl, hok', hp, hsz, _, hA', hlt', hval'⟩ := arg1_w (t := 22) (ts := [23]) hval hA hlt hok (fun n => (reads_node_both_w n).2) ⟨fun _ => rfl, by kernel_rfl⟩
  obtain ⟨w, v', vs', d', ds'', q', rfl, rfl, _, hp', hsz', _, hA'', _, _⟩ := arg1_w (t := 23) (ts := []) hval' hA' hlt' hok' reads_chgs_w ⟨fun _ => rfl, by kernel_rfl⟩
  obtain ⟨rfl, rfl⟩ := arg0 hA''
  exact ⟨_, args_cons hp (args_cons hp' args_nil), walkInverts_law a hsz w hsz'⟩

theorem walkInverts_holds : Rows.WalkInvertsSaid :=
  OpenClaim.holds_of_wide 3 Try.f3 rfl rfl rfl rfl rfl rfl rfl ⟨rfl, rfl, rfl, rfl, rfl⟩ rfl rfl rfl rfl rfl (by kernel_rfl) Try.func3 (by kernel_rfl)
    (of_decide_eq_true (by kernel_rfl)) (by unfold Func.isWrapper; first | (rw [if_pos (by decide +kernel)]; kernel_rfl) | (rw [if_neg (by decide +kernel)]; exact ⟨rfl, rfl⟩))
    (fun os started H enc _ => frame_said (s := Rows.walkInvertsSpec) started (by kernel_rfl) Try.func3 (bt := 4) (by kernel_rfl) rfl rfl (by kernel_rfl) (fun ds hd => by
        match ds, hd with
        | [_, _], _ => rfl)
      (ChangeSpec.witness6 (enc := enc) (C := Try.checked) false ⟨#[], #[.slice none 0 0, .slice none 0 0], []⟩ 8 (by kernel_rfl) (by kernel_rfl) (by kernel_rfl) (by kernel_rfl)) walkInverts_core)
end Go.Proofs.Ytkkcmobnhiiacaa
