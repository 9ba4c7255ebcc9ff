/- The statement SpaceTexts: every input. No conditions. -/
import Derived.Test.YteabokphchpifaaSpace
import Derived.Test.YteabokphchpifaaReadS
set_option linter.unusedSimpArgs false
set_option linter.unusedVariables false
set_option maxRecDepth 100000
namespace Go.Proofs.Yteabokphchpifaa
open Go.ChangeShapes Go.WideShapes Go.ChangeAt Go.RowKit

theorem spaceTexts_law (s : List UInt8) (a : Bool) (hs : s.length ≤ 140737488351232) : Fn1 Try.prog 12 [.str s, .bool a] (fun r => r = .bool true) := by
  have h1 := space_text s a (by omega)
  have h2 := ref_text s a
  generalize spText a s = o at h1 h2
  cases a
  all_goals (
    refine fn1E (T := Try.tt) Try.func12 rfl tt_all follows_all ?_ ?_ fun C hC hE => ?_
    · kernel_rfl
    · exact Nat.le_of_ble_eq_true (by kernel_rfl)
    conv => whnf
    repeat' (first | (refine brd_t (by first | assumption | omega) ?_; conv => whnf) | (refine brd_f (by first | assumption | omega) ?_; conv => whnf) | (refine ask (by first | assumption | omega) ?_; conv => whnf) | (refine fit64 (by omega) ?_; conv => whnf) | (refine fit (by simp only [kmin, kmax]; omega) ?_; conv => whnf) | (refine br_t (by assumption) ?_; conv => whnf) | (refine br_f (by assumption) ?_; conv => whnf) | (refine get_of (by assumption) ?_; conv => whnf) | (refine get_map (by assumption) ?_; conv => whnf) | (refine brd_t rfl ?_; conv => whnf) | (refine call_eq (h1) hC hasBody_34 ?_ ?_ ?_; kernel_rfl; kernel_rfl; conv => whnf) | (refine callq_eq (h1) hC hasBody_34 ?_ ?_ ?_; kernel_rfl; kernel_rfl; conv => whnf) | (refine call_eq (h2) hC hasBody_35 ?_ ?_ ?_; kernel_rfl; kernel_rfl; conv => whnf) | (refine callq_eq (h2) hC hasBody_35 ?_ ?_ ?_; kernel_rfl; kernel_rfl; conv => whnf) | (refine brd (fun h => ?_) (fun h => ?_) <;> conv => whnf) | (refine br (fun h => ?_) (fun h => ?_) <;> conv => whnf) | (refine ret_now hE ?_; conv => whnf) | (intro hlen; conv => whnf))
    exact ⟨rfl, rfl⟩)
theorem spaceTexts_core : LawCore 12 Try.f12.params.toList (Reached Try.prog Try.f12.params.toList) := by
  refine core_of fun H enc W base args ds ps hval hA hlt hok => ?_
  obtain ⟨a, v, vs, d, ds', q, rfl, rfl, _, hp, hsz, _, hA', hlt', hval'⟩ := arg1_w (t := 9) (ts := [4]) hval hA hlt hok (fun n => reads_str_s (by kernel_rfl) n) ⟨fun _ => rfl, by kernel_rfl⟩
  obtain ⟨w, v', vs', d', ds'', q', rfl, rfl, hp', _, _, hA'', _, _⟩ := arg1 (t := 4) (ts := []) hval' hA' hlt' (fun n => reads_bool (by kernel_rfl) n) ⟨fun _ => rfl, by kernel_rfl⟩
  obtain ⟨rfl, rfl⟩ := arg0 hA''
  exact ⟨_, args_cons hp (args_cons hp' args_nil), spaceTexts_law a w hsz⟩

theorem spaceTexts_holds : Rows.SpaceTextsSaid :=
  OpenClaim.holds_of_wide 12 Try.f12 rfl rfl rfl rfl rfl rfl rfl ⟨rfl, rfl, rfl, rfl, rfl⟩ rfl rfl rfl rfl rfl (by kernel_rfl) Try.func12 (by kernel_rfl)
    (of_decide_eq_true (by kernel_rfl)) (by unfold Func.isWrapper; first | (rw [if_pos (by decide +kernel)]; kernel_rfl) | (rw [if_neg (by decide +kernel)]; exact ⟨rfl, rfl⟩))
    (fun os started H enc _ => frame_said (s := Rows.spaceTextsSpec) started (by kernel_rfl) Try.func12 (bt := 4) (by kernel_rfl) rfl rfl (by kernel_rfl) (fun ds hd => by
        match ds, hd with
        | [_, _], _ => rfl)
      (ChangeSpec.witness6 (enc := enc) (C := Try.checked) false ⟨#[], #[.string .empty, .bool false], []⟩ 8 (by kernel_rfl) (by kernel_rfl) (by kernel_rfl) (by kernel_rfl)) spaceTexts_core)
end Go.Proofs.Yteabokphchpifaa
