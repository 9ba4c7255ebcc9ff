/- The statement AutoSames: every input. No conditions. -/
import Derived.Test.YtmjglpdfkkmcoaaSmSame
import Derived.Test.YtmjglpdfkkmcoaaSmDoc
import Derived.Test.YtmjglpdfkkmcoaaReadAuto
set_option linter.unusedSimpArgs false
set_option linter.unusedVariables false
set_option maxRecDepth 100000
namespace Go.Proofs.Ytmjglpdfkkmcoaa
open Go.ChangeShapes Go.WideShapes Go.ChangeAt Go.RowKit

set_option maxHeartbeats 8000000 in
theorem autoSames_law (T1 T2 : List (List Int)) (F1 F2 : List Bool) : Fn1 Try.prog 3 [autoV T1 F1, autoV T2 F2] (fun r => r = .bool true) := by
  obtain ⟨b, e, ha, hr⟩ : ∃ b e, Fn1 Try.prog 4 [autoV T1 F1, autoV T2 F2] (fun r => r = .tup [.bool b, .int .i64 e]) ∧ Fn1 Try.prog 5 [autoV T1 F1, autoV T2 F2] (fun r => r = .tup [.bool b, .int .i64 e]) := by
    by_cases h : mayOk T1 F1 = true ∧ mayOk T2 F2 = true
    · refine ⟨@decide (sameW T1 F1 T2 F2) (Classical.propDecidable _), 0, same_good h.1 h.2 _ ?_, docsame_good h.1 h.2 _ ?_⟩
      all_goals exact @decide_eq_true_iff _ (Classical.propDecidable _)
    · exact ⟨false, 4, same_bad h, docsame_bad h⟩
  cases b
  all_goals
    refine fn1E (T := Try.tt) Try.func3 rfl tt_all follows_all ?_ ?_ fun C hC hE => ?_
    · kernel_rfl
    · exact Nat.le_of_ble_eq_true (by kernel_rfl)
    conv => whnf
    repeat' (first | (refine brd_t (by first | assumption | omega) ?_; conv => whnf) | (refine brd_f (by first | assumption | omega) ?_; conv => whnf) | (refine ask (by first | assumption | omega) ?_; conv => whnf) | (refine fit64 (by omega) ?_; conv => whnf) | (refine fit (by simp only [kmin, kmax]; omega) ?_; conv => whnf) | (refine br_t (by assumption) ?_; conv => whnf) | (refine br_f (by assumption) ?_; conv => whnf) | (refine get_of (by assumption) ?_; conv => whnf) | (refine get_map (by assumption) ?_; conv => whnf) | (refine call_eq (ha) hC hasBody_4 ?_ ?_ ?_; kernel_rfl; kernel_rfl; conv => whnf) | (refine callq_eq (ha) hC hasBody_4 ?_ ?_ ?_; kernel_rfl; kernel_rfl; conv => whnf) | (refine call_eq (hr) hC hasBody_5 ?_ ?_ ?_; kernel_rfl; kernel_rfl; conv => whnf) | (refine callq_eq (hr) hC hasBody_5 ?_ ?_ ?_; kernel_rfl; kernel_rfl; conv => whnf) | (refine draw_lex hE ?_ ?_; decide +kernel; conv => whnf) | (refine brd (fun h => ?_) (fun h => ?_) <;> conv => whnf) | (refine br (fun h => ?_) (fun h => ?_) <;> conv => whnf) | (refine ret_now hE ?_; conv => whnf) | (intro hlen; conv => whnf) | (refine seg_here ?_; conv => whnf) | (refine both ?_ ?_ <;> conv => whnf))
    all_goals exact ⟨rfl, rfl⟩
theorem autoSames_core : LawCore 3 Try.f3.params.toList (Reached Try.prog Try.f3.params.toList) := by
  refine core_of fun H enc W base args ds ps hval hA hlt _ => ?_
  obtain ⟨a, v, vs, d, ds', q, rfl, rfl, hp, _, _, hA', hlt', hval'⟩ := argS (t := 25) (ts := [25]) hval hA hlt reads_auto (by kernel_rfl)
  obtain ⟨w, v', vs', d', ds'', q', rfl, rfl, hp', _, _, hA'', _, _⟩ := argS (t := 25) (ts := []) hval' hA' hlt' reads_auto (by kernel_rfl)
  obtain ⟨rfl, rfl⟩ := arg0 hA''
  exact ⟨_, args_cons hp (args_cons hp' args_nil), autoSames_law a.1 w.1 a.2.1 w.2.1⟩

theorem autoSames_holds : Rows.AutoSamesSaid :=
  OpenClaim.holds_of_wide 3 Try.f3 rfl rfl rfl rfl rfl rfl rfl ⟨rfl, rfl, rfl, rfl, rfl⟩ rfl rfl rfl rfl rfl (by kernel_rfl) Try.func3 (by kernel_rfl)
    (of_decide_eq_true (by kernel_rfl)) (by unfold Func.isWrapper; first | (rw [if_pos (by decide +kernel)]; kernel_rfl) | (rw [if_neg (by decide +kernel)]; exact ⟨rfl, rfl⟩))
    (fun os started H enc _ => frame_said (s := Rows.autoSamesSpec) started (by kernel_rfl) Try.func3 (bt := 4) (by kernel_rfl) rfl rfl (by kernel_rfl) (fun ds hd => by
        match ds, hd with
        | [_, _], _ => rfl)
      (ChangeSpec.witness6 (enc := enc) (C := Try.checked) false ⟨#[], #[.agg #[.slice none 0 0, .slice none 0 0], .agg #[.slice none 0 0, .slice none 0 0]], []⟩ 8 (by kernel_rfl) (by kernel_rfl) (by kernel_rfl) (by kernel_rfl)) autoSames_core)
end Go.Proofs.Ytmjglpdfkkmcoaa
