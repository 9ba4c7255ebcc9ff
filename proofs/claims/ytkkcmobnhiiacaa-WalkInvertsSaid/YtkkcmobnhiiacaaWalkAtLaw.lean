/- The document's WalkAt, walked; the law WalkAts. No conditions. -/
import Derived.Test.YtkkcmobnhiiacaaWalkAt
set_option linter.unusedSimpArgs false
set_option linter.unusedVariables false
set_option maxRecDepth 100000
namespace Go.Proofs.Ytkkcmobnhiiacaa
open Go.RowKit

def atI (l : List Nd) (path : List Int) : Nat × List Nd × List UInt8 × V × List UInt8 × V → Prop
  | (k, cur, n, av, t, pv) => k ≤ path.length ∧ szL cur ≤ szL l ∧ ((k = 0 ∧ cur = l ∧ 0 < path.length) ∨ (0 < k ∧ ∃ (a : List Atr), av = .lst (a.map attA) ∧ pv = .lst (nodesL cur) ∧ atF l path = if path.drop k = [] then some (.mk n a t cur) else if n = [] then none else atF cur (path.drop k)))
theorem walk_at_ref (path : List Int) (l : List Nd) : Fn1 Try.prog 13 [.lst (nodesL l), .lst (path.map (V.int .i64))] (fun r => r = atR l path) := by
  have hlp : (path.map (V.int .i64)).length = path.length := by simp
  refine fn1_nl ?_
  refine fn1E (T := Try.tt) Try.func13 rfl tt_all follows_all ?_ ?_ fun C hC hE => ?_
  · kernel_rfl
  · exact Nat.le_of_ble_eq_true (by kernel_rfl)
  conv => whnf
  repeat' (first | (refine brd_t (by first | assumption | omega) ?_; conv => whnf) | (refine brd_f (by first | assumption | omega) ?_; conv => whnf) | (refine ask (by first | assumption | omega) ?_; conv => whnf) | (refine fit64 (by omega) ?_; conv => whnf) | (refine fit (by simp only [kmin, kmax]; omega) ?_; conv => whnf) | (refine br_t (by assumption) ?_; conv => whnf) | (refine br_f (by assumption) ?_; conv => whnf) | (refine get_of (by assumption) ?_; conv => whnf) | (refine get_map (by assumption) ?_; conv => whnf) | (refine draw_lex hE ?_ ?_; decide +kernel; conv => whnf) | (refine brd (fun h => ?_) (fun h => ?_) <;> conv => whnf) | (refine br (fun h => ?_) (fun h => ?_) <;> conv => whnf) | (refine ret_now hE ?_; conv => whnf) | (intro hlen; conv => whnf) | (refine seg_here ?_; conv => whnf) | (refine both ?_ ?_ <;> conv => whnf))
  · exact ⟨rfl, atR_none (by rw [List.length_eq_zero_iff.1 (show path.length = 0 by omega)]; simp [atF])⟩
  refine loopE (fun ((k, cur, n, av, t, pv) : Nat × List Nd × List UInt8 × V × List UInt8 × V) => ⟨46, [(0, .lst (nodesL cur)), (4, .ptr 0 0 0), (6, .ptr 1 0 0), (13, .lst (path.map (V.int .i64))), (14, .int .i64 (path.map (V.int .i64)).length), (15, .int .i64 k)], [some (.row 4 [.agg [.str [], .nils, .str [], .nils]]), some (.row 4 [.agg [.str n, av, .str t, pv]])]⟩)
    (atI l path) (fun (k, _) => path.length - k) (0, l, [], .nils, [], .nils) hE ?_ ?_ ⟨Nat.zero_le _, Nat.le_refl _, .inl ⟨rfl, rfl, by omega⟩⟩ ?_
  · kernel_rfl
  · exact at_keep [0, 4, 6, 13, 14, 15] rfl
  rintro ⟨k, cur, n, av, t, pv⟩ ⟨hk, hs, hI⟩
  have hlm := nodesL_length cur
  have hl1 := szL_len cur
  by_cases hlt : k < path.length
  · obtain ⟨p, hp⟩ : ∃ x, path[k]? = some x := ⟨_, List.getElem?_eq_getElem hlt⟩
    have hd : path.drop k = p :: path.drop (k + 1) := by
      obtain ⟨h, rfl⟩ := List.getElem?_eq_some_iff.1 hp
      exact List.drop_eq_getElem_cons h
    have hnow : (0 < k → n ≠ []) → atF l path = atF cur (path.drop k) := by
      intro hn
      rcases hI with ⟨rfl, rfl, _⟩ | ⟨h0, a, _, _, h⟩
      · rw [List.drop_zero]
      · rw [h, if_neg (by rw [hd]; simp), if_neg (hn h0)]
    have hbad : 0 < k → n = [] → atF l path = none := by
      intro h0 hn
      rcases hI with ⟨rfl, _⟩ | ⟨h0, a, _, _, h⟩
      · omega
      · rw [h, if_neg (by rw [hd]; simp), if_pos hn]
    by_cases hout : p < 0 ∨ (cur.length : Int) ≤ p
    · have hnone : atF cur (path.drop k) = none := by rw [hd, atF, if_pos hout]
      have hnone' : atF l path = none := by
        by_cases hn : 0 < k ∧ n = []
        · exact hbad hn.1 hn.2
        · rw [hnow (fun h0 e => hn ⟨h0, e⟩), hnone]
      conv => whnf
      repeat' (first | (refine brd_t (by first | assumption | omega) ?_; conv => whnf) | (refine brd_f (by first | assumption | omega) ?_; conv => whnf) | (refine ask (by first | assumption | omega) ?_; conv => whnf) | (refine fit64 (by omega) ?_; conv => whnf) | (refine fit (by simp only [kmin, kmax]; omega) ?_; conv => whnf) | (refine br_t (by assumption) ?_; conv => whnf) | (refine br_f (by assumption) ?_; conv => whnf) | (refine get_of (by assumption) ?_; conv => whnf) | (refine get_map (by assumption) ?_; conv => whnf) | (refine draw_lex hE ?_ ?_; decide +kernel; conv => whnf) | (refine brd (fun h => ?_) (fun h => ?_) <;> conv => whnf) | (refine br (fun h => ?_) (fun h => ?_) <;> conv => whnf) | (refine ret_now hE ?_; conv => whnf) | (intro hlen; conv => whnf) | (refine seg_here ?_; conv => whnf) | (refine both ?_ ?_ <;> conv => whnf))
      all_goals first | exact ⟨rfl, atR_none hnone'⟩ | (exfalso; omega) | trace_state
    · obtain ⟨m, a, u, qs, hx, hx'⟩ := node_at (l := cur) (k := p.toNat) (by omega)
      have hp2 := szL_mem (List.mem_of_getElem? hx)
      have hp1 : szL qs < szN (.mk m a u qs) := by simp only [szN]; omega
      have hnext : atF cur (path.drop k) = if path.drop (k + 1) = [] then some (.mk m a u qs) else if m = [] then none else atF qs (path.drop (k + 1)) := by
        rw [hd, atF, if_neg hout, hx]
        rfl
      conv => whnf
      repeat' (first | (refine brd_t (by first | assumption | omega) ?_; conv => whnf) | (refine brd_f (by first | assumption | omega) ?_; conv => whnf) | (refine ask (by first | assumption | omega) ?_; conv => whnf) | (refine fit64 (by omega) ?_; conv => whnf) | (refine fit (by simp only [kmin, kmax]; omega) ?_; conv => whnf) | (refine br_t (by assumption) ?_; conv => whnf) | (refine br_f (by assumption) ?_; conv => whnf) | (refine get_of (by assumption) ?_; conv => whnf) | (refine get_map (by assumption) ?_; conv => whnf) | (refine draw_lex hE ?_ ?_; decide +kernel; conv => whnf) | (refine brd (fun h => ?_) (fun h => ?_) <;> conv => whnf) | (refine br (fun h => ?_) (fun h => ?_) <;> conv => whnf) | (refine ret_now hE ?_; conv => whnf) | (intro hlen; conv => whnf) | (refine seg_here ?_; conv => whnf) | (refine both ?_ ?_ <;> conv => whnf))
      all_goals first
        | exact ⟨rfl, atR_none (hbad (by omega) (by assumption))⟩
        | (have hnn : 0 < k → n ≠ [] := by intro h0; first | assumption | (exfalso; omega)
           have hI' : atI l path (k + 1, qs, m, .lst (a.map attA), u, .lst (nodesL qs)) := ⟨hlt, (show szL qs ≤ szL l by omega), .inr ⟨Nat.succ_pos _, a, rfl, rfl, (hnow hnn).trans hnext⟩⟩
           refine next_keep [0, 4, 6, 13, 14, 15] (k + 1, qs, m, .lst (a.map attA), u, .lst (nodesL qs)) hI' (show path.length - (k + 1) < path.length - k by omega) ?_
           rfl)
  · rcases hI with ⟨rfl, _, h⟩ | ⟨h0, a, rfl, rfl, h⟩
    · omega
    rw [if_pos (List.drop_eq_nil_of_le (by omega))] at h
    conv => whnf
    repeat' (first | (refine brd_t (by first | assumption | omega) ?_; conv => whnf) | (refine brd_f (by first | assumption | omega) ?_; conv => whnf) | (refine ask (by first | assumption | omega) ?_; conv => whnf) | (refine fit64 (by omega) ?_; conv => whnf) | (refine fit (by simp only [kmin, kmax]; omega) ?_; conv => whnf) | (refine br_t (by assumption) ?_; conv => whnf) | (refine br_f (by assumption) ?_; conv => whnf) | (refine get_of (by assumption) ?_; conv => whnf) | (refine get_map (by assumption) ?_; conv => whnf) | (refine draw_lex hE ?_ ?_; decide +kernel; conv => whnf) | (refine brd (fun h => ?_) (fun h => ?_) <;> conv => whnf) | (refine br (fun h => ?_) (fun h => ?_) <;> conv => whnf) | (refine ret_now hE ?_; conv => whnf) | (intro hlen; conv => whnf) | (refine seg_here ?_; conv => whnf) | (refine both ?_ ?_ <;> conv => whnf))
    exact ⟨rfl, (nl_res ..).trans (atR_some h)⟩
end Go.Proofs.Ytkkcmobnhiiacaa
