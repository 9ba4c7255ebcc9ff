/- The statement ExprChecks, where what it reads is of bulk at most 1048576: every such input. No conditions. -/
import Derived.Test.YtaapdbcbefnhgaaExprC
set_option linter.unusedSimpArgs false
set_option linter.unusedVariables false
set_option maxRecDepth 100000
namespace Go.Proofs.Ytaapdbcbefnhgaa
open Go.ChangeShapes Go.WideShapes Go.ChangeAt Go.RowKit

theorem exprChecks_law (x : Ex) (hx : szE x ≤ 1048576) : Fn1 Try.prog 6 [.agg (exG x)] (fun r => r = .bool true) := by
  have h1 := expr_check x hx
  have h2 := doc_check x hx

  refine fn1E (T := Try.tt) Try.func6 rfl tt_all follows_all ?_ ?_ fun C hC hE => ?_
  · kernel_rfl
  · exact Nat.le_of_ble_eq_true (by kernel_rfl)
  conv => whnf
  repeat' (first | (refine brd_t (by first | assumption | omega) ?_; conv => whnf) | (refine brd_f (by first | assumption | omega) ?_; conv => whnf) | (refine ask (by first | assumption | omega) ?_; conv => whnf) | (refine fit64 (by omega) ?_; conv => whnf) | (refine fit (by simp only [kmin, kmax]; omega) ?_; conv => whnf) | (refine br_t (by assumption) ?_; conv => whnf) | (refine br_f (by assumption) ?_; conv => whnf) | (refine get_of (by assumption) ?_; conv => whnf) | (refine get_map (by assumption) ?_; conv => whnf) | (refine call_eq (h1) hC hasBody_18 ?_ ?_ ?_; kernel_rfl; kernel_rfl; conv => whnf) | (refine callq_eq (h1) hC hasBody_18 ?_ ?_ ?_; kernel_rfl; kernel_rfl; conv => whnf) | (refine call_eq (h2) hC hasBody_19 ?_ ?_ ?_; kernel_rfl; kernel_rfl; conv => whnf) | (refine callq_eq (h2) hC hasBody_19 ?_ ?_ ?_; kernel_rfl; kernel_rfl; conv => whnf) | (refine draw_lex hE ?_ ?_; decide +kernel; conv => whnf) | (refine draw_any hE [⟨0, [(0, none), (1, none), (2, none), (3, none), (4, none), (5, none)], none⟩] ?_ ?_; decide +kernel; conv => whnf) | (refine brd (fun h => ?_) (fun h => ?_) <;> conv => whnf) | (refine br (fun h => ?_) (fun h => ?_) <;> conv => whnf) | (refine ret_now hE ?_; conv => whnf) | (intro hlen; conv => whnf))
  all_goals exact ⟨rfl, rfl⟩
theorem exprChecks_core : LawCore 6 Try.f6.params.toList (fun H ds => Rows.uptoSmall H ds = true) := law_arg exprChecks_law

theorem exprChecks_holds : Rows.ExprChecksUptoSaid :=
  OpenClaim.holds_of_cond 6 Try.f6 rfl rfl rfl rfl rfl rfl rfl ⟨rfl, rfl, rfl, rfl, rfl⟩ rfl rfl rfl rfl rfl (by kernel_rfl) Try.func6 (by kernel_rfl)
    (of_decide_eq_true (by kernel_rfl)) (by unfold Func.isWrapper; first | (rw [if_pos (by decide +kernel)]; kernel_rfl) | (rw [if_neg (by decide +kernel)]; exact ⟨rfl, rfl⟩))
    (fun os started H enc _ F => frame_upto (s := Rows.exprChecksSpec) started (by kernel_rfl) Try.func6 (bt := 4) (by kernel_rfl) rfl rfl (by kernel_rfl) (fun ds hd => by
        match ds, hd with
        | [_], _ => rfl) F
      (OpenSpec.witness (enc := enc) (C := Try.checked) (s := Rows.OpenSpec.upto Rows.exprChecksSpec) (k := Rows.uptoSmall) rfl false ⟨#[], #[.agg #[.int .i64 0, .int .i64 0, .slice none 0 0]], []⟩ 8 (by kernel_rfl) (by kernel_rfl) (by kernel_rfl)
        (x := ([.agg [.lit (.int .i64 0), .lit (.int .i64 0), .nil]], [], [])) (by kernel_rfl) rfl (by kernel_rfl)) exprChecks_core)
end Go.Proofs.Ytaapdbcbefnhgaa
