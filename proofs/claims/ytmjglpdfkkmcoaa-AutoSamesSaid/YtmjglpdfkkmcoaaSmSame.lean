/- auto.Same walked: it tells whether two machines end alike upon every word. No conditions. -/
import Derived.Test.YtmjglpdfkkmcoaaSmPairs
set_option linter.unusedSimpArgs false
set_option linter.unusedVariables false
set_option maxRecDepth 100000
namespace Go.Proofs.Ytmjglpdfkkmcoaa
open Go.RowKit

set_option maxHeartbeats 8000000 in
theorem same_bad {T1 T2 : List (List Int)} {F1 F2 : List Bool} (h : ¬ (mayOk T1 F1 = true ∧ mayOk T2 F2 = true)) : Fn1 Try.prog 4 [autoV T1 F1, autoV T2 F2] (fun r => r = .tup [.bool false, .int .i64 4]) := by
  have f1 := may T1 F1
  have f2 := may T2 F2
  cases m1 : mayOk T1 F1 with
  | false =>
    rw [m1] at f1
    cases m2 : mayOk T2 F2 <;> rw [m2] at f2
    all_goals
      refine fn1E (T := Try.tt) Try.func4 rfl tt_all follows_all ?_ ?_ fun C hC hE => ?_
      · kernel_rfl
      · exact Nat.le_of_ble_eq_true (by kernel_rfl)
      conv => whnf
      repeat' (first | (refine brd_t (by first | assumption | omega) ?_; conv => whnf) | (refine brd_f (by first | assumption | omega) ?_; conv => whnf) | (refine ask (by first | assumption | omega) ?_; conv => whnf) | (refine fit64 (by omega) ?_; conv => whnf) | (refine fit (by simp only [kmin, kmax]; omega) ?_; conv => whnf) | (refine br_t (by assumption) ?_; conv => whnf) | (refine br_f (by assumption) ?_; conv => whnf) | (refine get_of (by assumption) ?_; conv => whnf) | (refine get_map (by assumption) ?_; conv => whnf) | (refine call_eq (f1) hC hasBody_6 ?_ ?_ ?_; kernel_rfl; kernel_rfl; conv => whnf) | (refine callq_eq (f1) hC hasBody_6 ?_ ?_ ?_; kernel_rfl; kernel_rfl; conv => whnf) | (refine call_eq (f2) hC hasBody_6 ?_ ?_ ?_; kernel_rfl; kernel_rfl; conv => whnf) | (refine callq_eq (f2) hC hasBody_6 ?_ ?_ ?_; kernel_rfl; kernel_rfl; conv => whnf) | (refine draw_lex hE ?_ ?_; decide +kernel; conv => whnf) | (refine brd (fun h => ?_) (fun h => ?_) <;> conv => whnf) | (refine br (fun h => ?_) (fun h => ?_) <;> conv => whnf) | (refine ret_now hE ?_; conv => whnf) | (intro hlen; conv => whnf) | (refine seg_here ?_; conv => whnf) | (refine both ?_ ?_ <;> conv => whnf))
      all_goals exact ⟨rfl, rfl⟩
  | true =>
    cases m2 : mayOk T2 F2 with
    | true => exact absurd ⟨m1, m2⟩ h
    | false =>
      rw [m1] at f1
      rw [m2] at f2
      refine fn1E (T := Try.tt) Try.func4 rfl tt_all follows_all ?_ ?_ fun C hC hE => ?_
      · kernel_rfl
      · exact Nat.le_of_ble_eq_true (by kernel_rfl)
      conv => whnf
      repeat' (first | (refine brd_t (by first | assumption | omega) ?_; conv => whnf) | (refine brd_f (by first | assumption | omega) ?_; conv => whnf) | (refine ask (by first | assumption | omega) ?_; conv => whnf) | (refine fit64 (by omega) ?_; conv => whnf) | (refine fit (by simp only [kmin, kmax]; omega) ?_; conv => whnf) | (refine br_t (by assumption) ?_; conv => whnf) | (refine br_f (by assumption) ?_; conv => whnf) | (refine get_of (by assumption) ?_; conv => whnf) | (refine get_map (by assumption) ?_; conv => whnf) | (refine call_eq (f1) hC hasBody_6 ?_ ?_ ?_; kernel_rfl; kernel_rfl; conv => whnf) | (refine callq_eq (f1) hC hasBody_6 ?_ ?_ ?_; kernel_rfl; kernel_rfl; conv => whnf) | (refine call_eq (f2) hC hasBody_6 ?_ ?_ ?_; kernel_rfl; kernel_rfl; conv => whnf) | (refine callq_eq (f2) hC hasBody_6 ?_ ?_ ?_; kernel_rfl; kernel_rfl; conv => whnf) | (refine draw_lex hE ?_ ?_; decide +kernel; conv => whnf) | (refine brd (fun h => ?_) (fun h => ?_) <;> conv => whnf) | (refine br (fun h => ?_) (fun h => ?_) <;> conv => whnf) | (refine ret_now hE ?_; conv => whnf) | (intro hlen; conv => whnf) | (refine seg_here ?_; conv => whnf) | (refine both ?_ ?_ <;> conv => whnf))
      all_goals exact ⟨rfl, rfl⟩
set_option maxHeartbeats 8000000 in
theorem same_good {T1 T2 : List (List Int)} {F1 F2 : List Bool} (m1 : mayOk T1 F1 = true) (m2 : mayOk T2 F2 = true) (b : Bool) (hb : b = true ↔ sameW T1 F1 T2 F2) : Fn1 Try.prog 4 [autoV T1 F1, autoV T2 F2] (fun r => r = .tup [.bool b, .int .i64 0]) := by
  have f1 := may T1 F1
  have f2 := may T2 F2
  rw [m1] at f1
  rw [m2] at f2
  have hp := pairs_prog m1 m2
  have hcf : ∀ (M : List ((Int × Int) × Int)) (N : List (List Int)), Pairs T1 T2 M N → Fn1 Try.prog 8 [.lst ((M.map (·.1)).map pairA), .fn 9 [.rp [.lst (T1.map ints), .lst (F1.map V.bool)], .rp [.lst (T2.map ints), .lst (F2.map V.bool)]]] (fun r => r = .bool (!b)) := by
    intro M N hM
    have h := containsFunc_8 (M.map (·.1)) 9 [.rp [.lst (T1.map ints), .lst (F1.map V.bool)], .rp [.lst (T2.map ints), .lst (F2.map V.bool)]] (fun p => finI F1 p.1 != finI F2 p.2) hasBody_9 rfl (fun p hp => same1_prog m1 m2 (hM.inv.ok p hp).1 (hM.inv.ok p hp).2)
    have e : (M.map (·.1)).any (fun p => finI F1 p.1 != finI F2 p.2) = !b := by
      have := met_same (F1 := F1) (F2 := F2) hM.met
      rw [← hb] at this
      generalize (M.map (·.1)).any (fun p => finI F1 p.1 != finI F2 p.2) = c at this ⊢
      clear hp h
      cases c <;> cases b <;> simp_all
    rw [e] at h
    exact h
  refine fn1E (T := Try.tt) Try.func4 rfl tt_all follows_all ?_ ?_ fun C hC hE => ?_
  · kernel_rfl
  · exact Nat.le_of_ble_eq_true (by kernel_rfl)
  conv => whnf
  repeat' (first | (refine brd_t (by first | assumption | omega) ?_; conv => whnf) | (refine brd_f (by first | assumption | omega) ?_; conv => whnf) | (refine ask (by first | assumption | omega) ?_; conv => whnf) | (refine fit64 (by omega) ?_; conv => whnf) | (refine fit (by simp only [kmin, kmax]; omega) ?_; conv => whnf) | (refine br_t (by assumption) ?_; conv => whnf) | (refine br_f (by assumption) ?_; conv => whnf) | (refine get_of (by assumption) ?_; conv => whnf) | (refine get_map (by assumption) ?_; conv => whnf) | (refine call_eq (f1) hC hasBody_6 ?_ ?_ ?_; kernel_rfl; kernel_rfl; conv => whnf) | (refine callq_eq (f1) hC hasBody_6 ?_ ?_ ?_; kernel_rfl; kernel_rfl; conv => whnf) | (refine call_eq (f2) hC hasBody_6 ?_ ?_ ?_; kernel_rfl; kernel_rfl; conv => whnf) | (refine callq_eq (f2) hC hasBody_6 ?_ ?_ ?_; kernel_rfl; kernel_rfl; conv => whnf) | (refine draw_lex hE ?_ ?_; decide +kernel; conv => whnf) | (refine brd (fun h => ?_) (fun h => ?_) <;> conv => whnf) | (refine br (fun h => ?_) (fun h => ?_) <;> conv => whnf) | (refine ret_now hE ?_; conv => whnf) | (intro hlen; conv => whnf) | (refine seg_here ?_; conv => whnf) | (refine both ?_ ?_ <;> conv => whnf))
  refine call_fn hp hC hasBody_7 ?_ ?_ ?_
  · kernel_rfl
  · kernel_rfl
  intro r hr
  obtain ⟨M, N, rfl, hM⟩ := hr
  have hc := hcf M N hM
  conv => whnf
  cases b
  all_goals
    repeat' (first | (refine brd_t (by first | assumption | omega) ?_; conv => whnf) | (refine brd_f (by first | assumption | omega) ?_; conv => whnf) | (refine ask (by first | assumption | omega) ?_; conv => whnf) | (refine fit64 (by omega) ?_; conv => whnf) | (refine fit (by simp only [kmin, kmax]; omega) ?_; conv => whnf) | (refine br_t (by assumption) ?_; conv => whnf) | (refine br_f (by assumption) ?_; conv => whnf) | (refine get_of (by assumption) ?_; conv => whnf) | (refine get_map (by assumption) ?_; conv => whnf) | (refine call_up (up_freeze 0 (z := 2) (els := [autoV T1 F1]) rfl ⟨⟨trivial, trivial, trivial⟩, trivial⟩ (up_freeze 1 (z := 2) (els := [autoV T2 F2]) rfl ⟨⟨trivial, trivial, trivial⟩, trivial⟩ (up_here ?_))); conv => whnf) | (refine call_eq (hc) hC hasBody_8 ?_ ?_ ?_; kernel_rfl; kernel_rfl; conv => whnf) | (refine callq_eq (hc) hC hasBody_8 ?_ ?_ ?_; kernel_rfl; kernel_rfl; conv => whnf) | (refine draw_lex hE ?_ ?_; decide +kernel; conv => whnf) | (refine brd (fun h => ?_) (fun h => ?_) <;> conv => whnf) | (refine br (fun h => ?_) (fun h => ?_) <;> conv => whnf) | (refine ret_now hE ?_; conv => whnf) | (intro hlen; conv => whnf) | (refine seg_here ?_; conv => whnf) | (refine both ?_ ?_ <;> conv => whnf))
    all_goals first | exact ⟨rfl, rfl⟩ | trace_state
end Go.Proofs.Ytmjglpdfkkmcoaa
