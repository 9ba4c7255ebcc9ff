/- The statement AutoCounts: every input. No conditions. -/
import Derived.Test.YtcfinfdkmpgaaaaCount
import Derived.Test.YtcfinfdkmpgaaaaReadAuto
set_option linter.unusedSimpArgs false
set_option linter.unusedVariables false
set_option maxRecDepth 100000
namespace Go.Proofs.Ytcfinfdkmpgaaaa
open Go.ChangeShapes Go.WideShapes Go.ChangeAt Go.RowKit

set_option maxHeartbeats 8000000 in
theorem autoCounts_law (T : List (List Int)) (F : List Bool) (long : Int) : Fn1 Try.prog 3 [autoV T F, .int .i64 long] (fun r => r = .bool true) := by
  have ha := auto_count T F long
  have hr := ref_count T F long
  obtain ⟨n, e, hn⟩ : ∃ n e, countR T F long = .tup [.int .i64 n, .int .i64 e] := by unfold countR; (repeat' split) <;> exact ⟨_, _, rfl⟩
  rw [hn] at ha hr
  refine fn1E (T := Try.tt) Try.func3 rfl tt_all follows_all ?_ ?_ fun C hC hE => ?_
  · kernel_rfl
  · exact Nat.le_of_ble_eq_true (by kernel_rfl)
  conv => whnf
  repeat' (first | (refine brd_t (by first | assumption | omega) ?_; conv => whnf) | (refine brd_f (by first | assumption | omega) ?_; conv => whnf) | (refine ask (by first | assumption | omega) ?_; conv => whnf) | (refine fit64 (by omega) ?_; conv => whnf) | (refine fit (by simp only [kmin, kmax]; omega) ?_; conv => whnf) | (refine br_t (by assumption) ?_; conv => whnf) | (refine br_f (by assumption) ?_; conv => whnf) | (refine get_of (by assumption) ?_; conv => whnf) | (refine get_map (by assumption) ?_; conv => whnf) | (refine call_eq (ha) hC hasBody_14 ?_ ?_ ?_; kernel_rfl; kernel_rfl; conv => whnf) | (refine callq_eq (ha) hC hasBody_14 ?_ ?_ ?_; kernel_rfl; kernel_rfl; conv => whnf) | (refine call_eq (hr) hC hasBody_15 ?_ ?_ ?_; kernel_rfl; kernel_rfl; conv => whnf) | (refine callq_eq (hr) hC hasBody_15 ?_ ?_ ?_; kernel_rfl; kernel_rfl; conv => whnf) | (refine brd (fun h => ?_) (fun h => ?_) <;> conv => whnf) | (refine br (fun h => ?_) (fun h => ?_) <;> conv => whnf) | (refine ret_now hE ?_; conv => whnf) | (intro hlen; conv => whnf))
  all_goals first | exact ⟨rfl, rfl⟩ | trace_state
theorem autoCounts_core : LawCore 3 Try.f3.params.toList (Reached Try.prog Try.f3.params.toList) := by
  refine core_of fun H enc W base args ds ps hval hA hlt _ => ?_
  obtain ⟨a, v, vs, d, ds', q, rfl, rfl, hp, _, _, hA', hlt', hval'⟩ := argS (t := 25) (ts := [3]) hval hA hlt reads_auto (by kernel_rfl)
  obtain ⟨w, v', vs', d', ds'', q', rfl, rfl, hp', _, _, hA'', _, _⟩ := arg1 (t := 3) (ts := []) hval' hA' hlt' (fun n => reads_int (k := .i64) (by kernel_rfl) n) ⟨fun _ => rfl, by kernel_rfl⟩
  obtain ⟨rfl, rfl⟩ := arg0 hA''
  exact ⟨_, args_cons hp (args_cons hp' args_nil), autoCounts_law a.1 a.2.1 w⟩

theorem autoCounts_holds : Rows.AutoCountsSaid :=
  OpenClaim.holds_of_wide 3 Try.f3 rfl rfl rfl rfl rfl rfl rfl ⟨rfl, rfl, rfl, rfl, rfl⟩ rfl rfl rfl rfl rfl (by kernel_rfl) Try.func3 (by kernel_rfl)
    (of_decide_eq_true (by kernel_rfl)) (by unfold Func.isWrapper; first | (rw [if_pos (by decide +kernel)]; kernel_rfl) | (rw [if_neg (by decide +kernel)]; exact ⟨rfl, rfl⟩))
    (fun os started H enc _ => frame_said (s := Rows.autoCountsSpec) started (by kernel_rfl) Try.func3 (bt := 4) (by kernel_rfl) rfl rfl (by kernel_rfl) (fun ds hd => by
        match ds, hd with
        | [_, _], _ => rfl)
      (ChangeSpec.witness6 (enc := enc) (C := Try.checked) false ⟨#[], #[.agg #[.slice none 0 0, .slice none 0 0], .int .i64 0], []⟩ 8 (by kernel_rfl) (by kernel_rfl) (by kernel_rfl) (by kernel_rfl)) autoCounts_core)
end Go.Proofs.Ytcfinfdkmpgaaaa
