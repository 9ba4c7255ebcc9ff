/- The document's answer to RulesChecks, walked; the law. No conditions. -/
import Derived.Test.YteekfmflecgjmaaRules
set_option linter.unusedSimpArgs false
set_option linter.unusedVariables false
set_option maxRecDepth 100000
namespace Go.Proofs.Yteekfmflecgjmaa
open Go.RowKit

theorem rules_fault (l : List Ru) : Fn1 Try.prog 33 [rulesV l] (fun r => r = .int .i64 (rulesCode l)) := by
  have hlm : (l.map ruleA).length = l.length := by simp
  refine fn1E (T := Try.tt) Try.func33 rfl tt_all follows_all ?_ ?_ fun C hC hE => ?_
  · kernel_rfl
  · exact Nat.le_of_ble_eq_true (by kernel_rfl)
  conv => whnf
  repeat' (first | (refine brd_t (by first | assumption | omega) ?_; conv => whnf) | (refine brd_f (by first | assumption | omega) ?_; conv => whnf) | (refine ask (by first | assumption | omega) ?_; conv => whnf) | (refine fit64 (by omega) ?_; conv => whnf) | (refine fit (by simp only [kmin, kmax]; omega) ?_; conv => whnf) | (refine br_t (by assumption) ?_; conv => whnf) | (refine br_f (by assumption) ?_; conv => whnf) | (refine get_of (by assumption) ?_; conv => whnf) | (refine get_map (by assumption) ?_; conv => whnf) | (refine brd (fun h => ?_) (fun h => ?_) <;> conv => whnf) | (refine br (fun h => ?_) (fun h => ?_) <;> conv => whnf) | (refine ret_now hE ?_; conv => whnf) | (intro hlen; conv => whnf))
  · exact ⟨rfl, by rw [code_big (by omega)]⟩
  refine loopE (fun k : Nat => ⟨59, [(0, rulesV l), (10, rulesV l), (11, .int .i64 (l.map ruleA).length), (12, .int .i64 k)], []⟩) (fun k => k ≤ l.length ∧ ∀ j < k, faultAt l j = 0) (fun k => l.length - k) 0 hE ?_ ?_ ⟨Nat.zero_le _, fun j hj => by omega⟩ ?_
  · kernel_rfl
  · exact at_keep [0, 10, 11, 12] rfl
  intro k hk
  obtain ⟨hk, hj⟩ := hk
  have h12 : ¬ 12 < l.length := by omega
  by_cases hlt : k < l.length
  · obtain ⟨x, hx⟩ : ∃ x, l[k]? = some x := ⟨_, List.getElem?_eq_getElem hlt⟩
    have htl : ((l.map ruleA).take k).length = k := by simp; omega
    conv => whnf
    repeat' (first | (refine brd_t (by first | assumption | omega) ?_; conv => whnf) | (refine brd_f (by first | assumption | omega) ?_; conv => whnf) | (refine ask (by first | assumption | omega) ?_; conv => whnf) | (refine fit64 (by omega) ?_; conv => whnf) | (refine fit (by simp only [kmin, kmax]; omega) ?_; conv => whnf) | (refine br_t (by assumption) ?_; conv => whnf) | (refine br_f (by assumption) ?_; conv => whnf) | (refine get_of (by assumption) ?_; conv => whnf) | (refine get_map (by assumption) ?_; conv => whnf) | (refine call_eq (name_may _) hC hasBody_58 ?_ ?_ ?_; kernel_rfl; kernel_rfl; conv => whnf) | (refine callq_eq (name_may _) hC hasBody_58 ?_ ?_ ?_; kernel_rfl; kernel_rfl; conv => whnf) | (refine ⟨slice_len l, ?_⟩; conv => whnf) | (refine brd (fun h => ?_) (fun h => ?_) <;> conv => whnf) | (refine br (fun h => ?_) (fun h => ?_) <;> conv => whnf) | (refine ret_now hE ?_; conv => whnf) | (intro hlen; conv => whnf))
    all_goals first
      | exact ⟨rfl, congrArg (V.int .i64) (Eq.symm (code_hit h12 hx hj (by unfold rfault; (repeat' split); all_goals first | rfl | omega | (exfalso; simp_all; done) | (exfalso; simp_all; omega)) (by decide)))⟩
      | skip
    all_goals
      have hz : rfault (l.take k) x = if (l.take k).any (fun q => decide (q.1 = x.1)) then 8 else 0 := by unfold rfault; (repeat' split); all_goals first | rfl | omega | (exfalso; simp_all; done) | (exfalso; simp_all; omega)
      refine loopE (fun j : Nat => ⟨59, [(0, rulesV l), (4, .ptr 0 0 0), (10, rulesV l), (11, .int .i64 (l.map ruleA).length), (12, .int .i64 k), (46, .lst ((l.map ruleA).take k)), (47, .int .i64 ((l.map ruleA).take k).length), (48, .int .i64 j)], [some (.row 3 [ruleA x])]⟩) (fun j => j ≤ k ∧ ∀ i < j, ∀ q, l[i]? = some q → q.1 ≠ x.1) (fun j => k - j) 0 hE ?_ ?_ ⟨Nat.zero_le _, fun j hj => by omega⟩ ?_
      · kernel_rfl
      · exact at_keep [0, 4, 10, 11, 12, 46, 47, 48] rfl
      intro j hjp
      obtain ⟨hjk, hjn⟩ := hjp
      by_cases hjl : j < k
      · obtain ⟨q, hq⟩ : ∃ q, l[j]? = some q := ⟨_, List.getElem?_eq_getElem (by omega)⟩
        have hq' : ((l.map ruleA).take k)[j]? = some (ruleA q) := by rw [List.getElem?_take, if_pos hjl, List.getElem?_map, hq]; rfl
        conv => whnf
        repeat' (first | (refine brd_t (by first | assumption | omega) ?_; conv => whnf) | (refine brd_f (by first | assumption | omega) ?_; conv => whnf) | (refine ask (by first | assumption | omega) ?_; conv => whnf) | (refine fit64 (by omega) ?_; conv => whnf) | (refine fit (by simp only [kmin, kmax]; omega) ?_; conv => whnf) | (refine br_t (by assumption) ?_; conv => whnf) | (refine br_f (by assumption) ?_; conv => whnf) | (refine get_of (by assumption) ?_; conv => whnf) | (refine get_map (by assumption) ?_; conv => whnf) | (refine brd (fun h => ?_) (fun h => ?_) <;> conv => whnf) | (refine br (fun h => ?_) (fun h => ?_) <;> conv => whnf) | (refine ret_now hE ?_; conv => whnf) | (intro hlen; conv => whnf))
        · refine ⟨rfl, congrArg (V.int .i64) (Eq.symm (code_hit h12 hx hj (hz.trans (if_pos ?_)) (by decide)))⟩
          rw [List.any_eq_true]
          exact ⟨q, List.mem_of_getElem? (i := j) (by rw [List.getElem?_take, if_pos hjl]; exact hq), decide_eq_true (by assumption)⟩
        · refine next_drop [0, 4, 10, 11, 12, 46, 47, 48] [1] (j + 1) ⟨hjl, ?_⟩ (by omega) rfl
          intro i hi q' hq2
          by_cases e : i = j
          · subst e; rw [hq] at hq2; cases hq2; assumption
          · exact hjn i (by omega) q' hq2
      · conv => whnf
        repeat' (first | (refine brd_t (by first | assumption | omega) ?_; conv => whnf) | (refine brd_f (by first | assumption | omega) ?_; conv => whnf) | (refine ask (by first | assumption | omega) ?_; conv => whnf) | (refine fit64 (by omega) ?_; conv => whnf) | (refine fit (by simp only [kmin, kmax]; omega) ?_; conv => whnf) | (refine br_t (by assumption) ?_; conv => whnf) | (refine br_f (by assumption) ?_; conv => whnf) | (refine get_of (by assumption) ?_; conv => whnf) | (refine get_map (by assumption) ?_; conv => whnf) | (refine brd (fun h => ?_) (fun h => ?_) <;> conv => whnf) | (refine br (fun h => ?_) (fun h => ?_) <;> conv => whnf) | (refine ret_now hE ?_; conv => whnf) | (intro hlen; conv => whnf))
        refine next_wipe [0, 10, 11, 12] (k + 1) (by kernel_rfl) ⟨hlt, fault_next hx hj (hz.trans (if_neg ?_))⟩ (by omega) rfl
        rw [List.any_eq_true]
        rintro ⟨q, hq, he⟩
        obtain ⟨i, hi⟩ := List.mem_iff_getElem?.1 hq
        rw [List.getElem?_take] at hi
        split at hi
        · exact hjn i (by omega) q hi (of_decide_eq_true he)
        · cases hi
  · conv => whnf
    repeat' (first | (refine brd_t (by first | assumption | omega) ?_; conv => whnf) | (refine brd_f (by first | assumption | omega) ?_; conv => whnf) | (refine ask (by first | assumption | omega) ?_; conv => whnf) | (refine fit64 (by omega) ?_; conv => whnf) | (refine fit (by simp only [kmin, kmax]; omega) ?_; conv => whnf) | (refine br_t (by assumption) ?_; conv => whnf) | (refine br_f (by assumption) ?_; conv => whnf) | (refine get_of (by assumption) ?_; conv => whnf) | (refine get_map (by assumption) ?_; conv => whnf) | (refine brd (fun h => ?_) (fun h => ?_) <;> conv => whnf) | (refine br (fun h => ?_) (fun h => ?_) <;> conv => whnf) | (refine ret_now hE ?_; conv => whnf) | (intro hlen; conv => whnf))
    exact ⟨rfl, by rw [code_none h12 (fun j hjl => hj j (by omega))]⟩

end Go.Proofs.Yteekfmflecgjmaa
