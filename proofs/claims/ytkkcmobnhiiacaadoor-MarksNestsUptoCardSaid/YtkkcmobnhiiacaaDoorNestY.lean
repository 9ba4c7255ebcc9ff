/- The document's MarksNest, walked. No conditions. -/
import Derived.Test.YtkkcmobnhiiacaaDoorData
import Derived.Test.YtkkcmobnhiiacaaDoorNestX
import Derived.Test.YtkkcmobnhiiacaaDoorMarkLaw
import Derived.Test.YtkkcmobnhiiacaaDoorMNormA
import Derived.Test.YtkkcmobnhiiacaaDoorMNormB
/-! The document's SameAttrs, SameNodes at equal arguments, walked. No conditions. -/
set_option linter.unusedSimpArgs false
set_option linter.unusedVariables false
set_option maxRecDepth 100000
namespace Go.Proofs.YtkkcmobnhiiacaaDoor
open Go.RowKit

theorem same_attrs (l : List Atr) : Fn1 Tryd.prog 22 [.lst (l.map attA), .lst (l.map attA)] (fun r => r = .bool true) := by
  have hlm : (l.map attA).length = l.length := by simp
  refine fn1E (T := Tryd.tt) Tryd.func22 rfl tt_all follows_all ?_ ?_ fun C hC hE => ?_
  · kernel_rfl
  · exact Nat.le_of_ble_eq_true (by kernel_rfl)
  conv => whnf
  repeat' (first | (refine brd_t (by first | assumption | omega) ?_; conv => whnf) | (refine brd_f (by first | assumption | omega) ?_; conv => whnf) | (refine ask (by first | assumption | omega) ?_; conv => whnf) | (refine fit64 (by omega) ?_; conv => whnf) | (refine fit (by simp only [kmin, kmax]; omega) ?_; conv => whnf) | (refine br_t (by assumption) ?_; conv => whnf) | (refine br_f (by assumption) ?_; conv => whnf) | (refine get_of (by assumption) ?_; conv => whnf) | (refine get_map (by assumption) ?_; conv => whnf) | (refine draw_lex hE ?_ ?_; decide +kernel; conv => whnf) | (refine draw_any hE [⟨0, [(0, none), (1, none), (2, none), (3, none), (4, none), (5, none), (6, none), (7, none), (8, none)], none, [], [[]]⟩] ?_ ?_; decide +kernel; conv => whnf) | (refine brd (fun h => ?_) (fun h => ?_) <;> conv => whnf) | (refine br (fun h => ?_) (fun h => ?_) <;> conv => whnf) | (refine ret_now hE ?_; conv => whnf) | (intro hlen; conv => whnf) | (refine seg_here ?_; conv => whnf) | (refine both ?_ ?_ <;> conv => whnf))
  refine loopE (fun k : Nat => ⟨26, [(0, .lst (l.map attA)), (1, .lst (l.map attA)), (12, .int .i64 (l.map attA).length), (13, .int .i64 k)], []⟩) (fun k => k ≤ l.length) (fun k => l.length - k) 0 hE ?_ ?_ (Nat.zero_le _) ?_
  · kernel_rfl
  · exact at_keep [0, 1, 12, 13] rfl
  intro k hk
  by_cases hlt : k < l.length
  · obtain ⟨x, hx⟩ : ∃ x, l[k]? = some x := ⟨_, List.getElem?_eq_getElem hlt⟩
    conv => whnf
    repeat' (first | (refine brd_t (by first | assumption | omega) ?_; conv => whnf) | (refine brd_f (by first | assumption | omega) ?_; conv => whnf) | (refine ask (by first | assumption | omega) ?_; conv => whnf) | (refine fit64 (by omega) ?_; conv => whnf) | (refine fit (by simp only [kmin, kmax]; omega) ?_; conv => whnf) | (refine br_t (by assumption) ?_; conv => whnf) | (refine br_f (by assumption) ?_; conv => whnf) | (refine get_of (by assumption) ?_; conv => whnf) | (refine get_map (by assumption) ?_; conv => whnf) | (refine draw_lex hE ?_ ?_; decide +kernel; conv => whnf) | (refine draw_any hE [⟨0, [(0, none), (1, none), (2, none), (3, none), (4, none), (5, none), (6, none), (7, none), (8, none)], none, [], [[]]⟩] ?_ ?_; decide +kernel; conv => whnf) | (refine brd (fun h => ?_) (fun h => ?_) <;> conv => whnf) | (refine br (fun h => ?_) (fun h => ?_) <;> conv => whnf) | (refine ret_now hE ?_; conv => whnf) | (intro hlen; conv => whnf) | (refine seg_here ?_; conv => whnf) | (refine both ?_ ?_ <;> conv => whnf))
    all_goals first | exact next_keep [0, 1, 12, 13] (k + 1) hlt (by omega) rfl | (exfalso; simp_all; done)
  · conv => whnf
    repeat' (first | (refine brd_t (by first | assumption | omega) ?_; conv => whnf) | (refine brd_f (by first | assumption | omega) ?_; conv => whnf) | (refine ask (by first | assumption | omega) ?_; conv => whnf) | (refine fit64 (by omega) ?_; conv => whnf) | (refine fit (by simp only [kmin, kmax]; omega) ?_; conv => whnf) | (refine br_t (by assumption) ?_; conv => whnf) | (refine br_f (by assumption) ?_; conv => whnf) | (refine get_of (by assumption) ?_; conv => whnf) | (refine get_map (by assumption) ?_; conv => whnf) | (refine draw_lex hE ?_ ?_; decide +kernel; conv => whnf) | (refine draw_any hE [⟨0, [(0, none), (1, none), (2, none), (3, none), (4, none), (5, none), (6, none), (7, none), (8, none)], none, [], [[]]⟩] ?_ ?_; decide +kernel; conv => whnf) | (refine brd (fun h => ?_) (fun h => ?_) <;> conv => whnf) | (refine br (fun h => ?_) (fun h => ?_) <;> conv => whnf) | (refine ret_now hE ?_; conv => whnf) | (intro hlen; conv => whnf) | (refine seg_here ?_; conv => whnf) | (refine both ?_ ?_ <;> conv => whnf))
    exact ⟨rfl, rfl⟩
set_option maxHeartbeats 8000000 in
theorem same_nodes : ∀ (N : Nat) (l : List Nd), szL l ≤ N → Fn1 Tryd.prog 9 [.lst (nodesL l), .lst (nodesL l)] (fun r => r = .bool true) := by
  intro N
  induction N using Nat.strongRecOn with
  | _ N ih =>
    intro l hps
    have hlm := nodesL_length l
    refine fn1E (T := Tryd.tt) Tryd.func9 rfl tt_all follows_all ?_ ?_ fun C hC hE => ?_
    · kernel_rfl
    · exact Nat.le_of_ble_eq_true (by kernel_rfl)
    conv => whnf
    repeat' (first | (refine brd_t (by first | assumption | omega) ?_; conv => whnf) | (refine brd_f (by first | assumption | omega) ?_; conv => whnf) | (refine ask (by first | assumption | omega) ?_; conv => whnf) | (refine fit64 (by omega) ?_; conv => whnf) | (refine fit (by simp only [kmin, kmax]; omega) ?_; conv => whnf) | (refine br_t (by assumption) ?_; conv => whnf) | (refine br_f (by assumption) ?_; conv => whnf) | (refine get_of (by assumption) ?_; conv => whnf) | (refine get_map (by assumption) ?_; conv => whnf) | (refine draw_lex hE ?_ ?_; decide +kernel; conv => whnf) | (refine draw_any hE [⟨0, [(0, none), (1, none), (2, none), (3, none), (4, none), (5, none), (6, none), (7, none), (8, none), (9, none), (10, none), (11, none), (12, none), (13, none), (14, none), (15, none), (16, none), (17, none), (18, none), (19, none), (20, none), (21, none), (22, none), (23, none), (24, none), (25, none), (26, none), (27, none), (28, none), (29, none), (30, none), (31, none), (32, none), (33, none), (34, none), (35, none), (36, none), (37, none), (38, none), (39, none), (40, none), (41, none), (42, none), (43, none), (44, none), (45, none), (46, none), (47, none), (48, none), (49, none), (50, none), (51, none)], none, [], [[]]⟩] ?_ ?_; decide +kernel; conv => whnf) | (refine brd (fun h => ?_) (fun h => ?_) <;> conv => whnf) | (refine br (fun h => ?_) (fun h => ?_) <;> conv => whnf) | (refine ret_now hE ?_; conv => whnf) | (intro hlen; conv => whnf) | (refine seg_here ?_; conv => whnf) | (refine both ?_ ?_ <;> conv => whnf))
    refine loopE (fun k : Nat => ⟨69, [(0, .lst (nodesL l)), (1, .lst (nodesL l)), (12, .int .i64 (nodesL l).length), (13, .int .i64 k)], []⟩) (fun k => k ≤ l.length) (fun k => l.length - k) 0 hE ?_ ?_ (Nat.zero_le _) ?_
    · kernel_rfl
    · exact at_keep [0, 1, 12, 13] rfl
    intro k hk
    by_cases hlt : k < l.length
    · obtain ⟨n, a, t, qs, hx, hx'⟩ := node_at hlt
      have hp2 := szL_mem (List.mem_of_getElem? hx)
      have hp1 : szL qs < szN (.mk n a t qs) := by simp only [szN]; omega
      have ih' := ih (szL qs) (by omega) qs (Nat.le_refl _)
      conv => whnf
      repeat' (first | (refine brd_t (by first | assumption | omega) ?_; conv => whnf) | (refine brd_f (by first | assumption | omega) ?_; conv => whnf) | (refine ask (by first | assumption | omega) ?_; conv => whnf) | (refine fit64 (by omega) ?_; conv => whnf) | (refine fit (by simp only [kmin, kmax]; omega) ?_; conv => whnf) | (refine br_t (by assumption) ?_; conv => whnf) | (refine br_f (by assumption) ?_; conv => whnf) | (refine get_of (by assumption) ?_; conv => whnf) | (refine get_map (by assumption) ?_; conv => whnf) | (refine call_eq (same_attrs _) hC hasBody_22 ?_ ?_ ?_; kernel_rfl; kernel_rfl; conv => whnf) | (refine callq_eq (same_attrs _) hC hasBody_22 ?_ ?_ ?_; kernel_rfl; kernel_rfl; conv => whnf) | (refine call_eq (ih') hC hasBody_9 ?_ ?_ ?_; kernel_rfl; kernel_rfl; conv => whnf) | (refine callq_eq (ih') hC hasBody_9 ?_ ?_ ?_; kernel_rfl; kernel_rfl; conv => whnf) | (refine draw_lex hE ?_ ?_; decide +kernel; conv => whnf) | (refine draw_any hE [⟨0, [(0, none), (1, none), (2, none), (3, none), (4, none), (5, none), (6, none), (7, none), (8, none), (9, none), (10, none), (11, none), (12, none), (13, none), (14, none), (15, none), (16, none), (17, none), (18, none), (19, none), (20, none), (21, none), (22, none), (23, none), (24, none), (25, none), (26, none), (27, none), (28, none), (29, none), (30, none), (31, none), (32, none), (33, none), (34, none), (35, none), (36, none), (37, none), (38, none), (39, none), (40, none), (41, none), (42, none), (43, none), (44, none), (45, none), (46, none), (47, none), (48, none), (49, none), (50, none), (51, none)], none, [], [[]]⟩] ?_ ?_; decide +kernel; conv => whnf) | (refine brd (fun h => ?_) (fun h => ?_) <;> conv => whnf) | (refine br (fun h => ?_) (fun h => ?_) <;> conv => whnf) | (refine ret_now hE ?_; conv => whnf) | (intro hlen; conv => whnf) | (refine seg_here ?_; conv => whnf) | (refine both ?_ ?_ <;> conv => whnf))
      all_goals first | exact next_keep [0, 1, 12, 13] (k + 1) hlt (by omega) rfl | (exfalso; simp_all; done) | trace_state
    · conv => whnf
      repeat' (first | (refine brd_t (by first | assumption | omega) ?_; conv => whnf) | (refine brd_f (by first | assumption | omega) ?_; conv => whnf) | (refine ask (by first | assumption | omega) ?_; conv => whnf) | (refine fit64 (by omega) ?_; conv => whnf) | (refine fit (by simp only [kmin, kmax]; omega) ?_; conv => whnf) | (refine br_t (by assumption) ?_; conv => whnf) | (refine br_f (by assumption) ?_; conv => whnf) | (refine get_of (by assumption) ?_; conv => whnf) | (refine get_map (by assumption) ?_; conv => whnf) | (refine draw_lex hE ?_ ?_; decide +kernel; conv => whnf) | (refine draw_any hE [⟨0, [(0, none), (1, none), (2, none), (3, none), (4, none), (5, none), (6, none), (7, none), (8, none), (9, none), (10, none), (11, none), (12, none), (13, none), (14, none), (15, none), (16, none), (17, none), (18, none), (19, none), (20, none), (21, none), (22, none), (23, none), (24, none), (25, none), (26, none), (27, none), (28, none), (29, none), (30, none), (31, none), (32, none), (33, none), (34, none), (35, none), (36, none), (37, none), (38, none), (39, none), (40, none), (41, none), (42, none), (43, none), (44, none), (45, none), (46, none), (47, none), (48, none), (49, none), (50, none), (51, none)], none, [], [[]]⟩] ?_ ?_; decide +kernel; conv => whnf) | (refine brd (fun h => ?_) (fun h => ?_) <;> conv => whnf) | (refine br (fun h => ?_) (fun h => ?_) <;> conv => whnf) | (refine ret_now hE ?_; conv => whnf) | (intro hlen; conv => whnf) | (refine seg_here ?_; conv => whnf) | (refine both ?_ ?_ <;> conv => whnf))
      exact ⟨rfl, rfl⟩
def zeroN : V := .agg [.str [], .nils, .str [], .nils]
theorem same_attrs_nil : Fn1 Tryd.prog 22 [.nils, .nils] (fun r => r = .bool true) := by
  refine fn1E (T := Tryd.tt) Tryd.func22 rfl tt_all follows_all ?_ ?_ fun C hC hE => ?_
  · kernel_rfl
  · exact Nat.le_of_ble_eq_true (by kernel_rfl)
  conv => whnf
  repeat' (first | (refine brd_t (by first | assumption | omega) ?_; conv => whnf) | (refine brd_f (by first | assumption | omega) ?_; conv => whnf) | (refine ask (by first | assumption | omega) ?_; conv => whnf) | (refine fit64 (by omega) ?_; conv => whnf) | (refine fit (by simp only [kmin, kmax]; omega) ?_; conv => whnf) | (refine br_t (by assumption) ?_; conv => whnf) | (refine br_f (by assumption) ?_; conv => whnf) | (refine get_of (by assumption) ?_; conv => whnf) | (refine get_map (by assumption) ?_; conv => whnf) | (refine draw_lex hE ?_ ?_; decide +kernel; conv => whnf) | (refine draw_any hE [⟨0, [(0, none), (1, none), (2, none), (3, none), (4, none), (5, none), (6, none), (7, none), (8, none)], none, [], [[]]⟩] ?_ ?_; decide +kernel; conv => whnf) | (refine brd (fun h => ?_) (fun h => ?_) <;> conv => whnf) | (refine br (fun h => ?_) (fun h => ?_) <;> conv => whnf) | (refine ret_now hE ?_; conv => whnf) | (intro hlen; conv => whnf) | (refine seg_here ?_; conv => whnf) | (refine both ?_ ?_ <;> conv => whnf))
  refine loopE (fun k : Nat => ⟨26, [(0, .nils), (1, .nils), (12, .int .i64 0), (13, .int .i64 0)], []⟩) (fun k => True) (fun k => k) 0 hE ?_ ?_ trivial ?_
  · kernel_rfl
  · exact at_keep [0, 1, 12, 13] rfl
  intro k hk
  conv => whnf
  repeat' (first | (refine brd_t (by first | assumption | omega) ?_; conv => whnf) | (refine brd_f (by first | assumption | omega) ?_; conv => whnf) | (refine ask (by first | assumption | omega) ?_; conv => whnf) | (refine fit64 (by omega) ?_; conv => whnf) | (refine fit (by simp only [kmin, kmax]; omega) ?_; conv => whnf) | (refine br_t (by assumption) ?_; conv => whnf) | (refine br_f (by assumption) ?_; conv => whnf) | (refine get_of (by assumption) ?_; conv => whnf) | (refine get_map (by assumption) ?_; conv => whnf) | (refine draw_lex hE ?_ ?_; decide +kernel; conv => whnf) | (refine draw_any hE [⟨0, [(0, none), (1, none), (2, none), (3, none), (4, none), (5, none), (6, none), (7, none), (8, none)], none, [], [[]]⟩] ?_ ?_; decide +kernel; conv => whnf) | (refine brd (fun h => ?_) (fun h => ?_) <;> conv => whnf) | (refine br (fun h => ?_) (fun h => ?_) <;> conv => whnf) | (refine ret_now hE ?_; conv => whnf) | (intro hlen; conv => whnf) | (refine seg_here ?_; conv => whnf) | (refine both ?_ ?_ <;> conv => whnf))
  exact ⟨rfl, rfl⟩
theorem same_nodes_nil : Fn1 Tryd.prog 9 [.nils, .nils] (fun r => r = .bool true) := by
  refine fn1E (T := Tryd.tt) Tryd.func9 rfl tt_all follows_all ?_ ?_ fun C hC hE => ?_
  · kernel_rfl
  · exact Nat.le_of_ble_eq_true (by kernel_rfl)
  conv => whnf
  repeat' (first | (refine brd_t (by first | assumption | omega) ?_; conv => whnf) | (refine brd_f (by first | assumption | omega) ?_; conv => whnf) | (refine ask (by first | assumption | omega) ?_; conv => whnf) | (refine fit64 (by omega) ?_; conv => whnf) | (refine fit (by simp only [kmin, kmax]; omega) ?_; conv => whnf) | (refine br_t (by assumption) ?_; conv => whnf) | (refine br_f (by assumption) ?_; conv => whnf) | (refine get_of (by assumption) ?_; conv => whnf) | (refine get_map (by assumption) ?_; conv => whnf) | (refine draw_lex hE ?_ ?_; decide +kernel; conv => whnf) | (refine draw_any hE [⟨0, [(0, none), (1, none), (2, none), (3, none), (4, none), (5, none), (6, none), (7, none), (8, none), (9, none), (10, none), (11, none), (12, none), (13, none), (14, none), (15, none), (16, none), (17, none), (18, none), (19, none), (20, none), (21, none), (22, none), (23, none), (24, none), (25, none), (26, none), (27, none), (28, none), (29, none), (30, none), (31, none), (32, none), (33, none), (34, none), (35, none), (36, none), (37, none), (38, none), (39, none), (40, none), (41, none), (42, none), (43, none), (44, none), (45, none), (46, none), (47, none), (48, none), (49, none), (50, none), (51, none)], none, [], [[]]⟩] ?_ ?_; decide +kernel; conv => whnf) | (refine brd (fun h => ?_) (fun h => ?_) <;> conv => whnf) | (refine br (fun h => ?_) (fun h => ?_) <;> conv => whnf) | (refine ret_now hE ?_; conv => whnf) | (intro hlen; conv => whnf) | (refine seg_here ?_; conv => whnf) | (refine both ?_ ?_ <;> conv => whnf))
  refine loopE (fun k : Nat => ⟨69, [(0, .nils), (1, .nils), (12, .int .i64 0), (13, .int .i64 0)], []⟩) (fun k => True) (fun k => k) 0 hE ?_ ?_ trivial ?_
  · kernel_rfl
  · exact at_keep [0, 1, 12, 13] rfl
  intro k hk
  conv => whnf
  repeat' (first | (refine brd_t (by first | assumption | omega) ?_; conv => whnf) | (refine brd_f (by first | assumption | omega) ?_; conv => whnf) | (refine ask (by first | assumption | omega) ?_; conv => whnf) | (refine fit64 (by omega) ?_; conv => whnf) | (refine fit (by simp only [kmin, kmax]; omega) ?_; conv => whnf) | (refine br_t (by assumption) ?_; conv => whnf) | (refine br_f (by assumption) ?_; conv => whnf) | (refine get_of (by assumption) ?_; conv => whnf) | (refine get_map (by assumption) ?_; conv => whnf) | (refine draw_lex hE ?_ ?_; decide +kernel; conv => whnf) | (refine draw_any hE [⟨0, [(0, none), (1, none), (2, none), (3, none), (4, none), (5, none), (6, none), (7, none), (8, none), (9, none), (10, none), (11, none), (12, none), (13, none), (14, none), (15, none), (16, none), (17, none), (18, none), (19, none), (20, none), (21, none), (22, none), (23, none), (24, none), (25, none), (26, none), (27, none), (28, none), (29, none), (30, none), (31, none), (32, none), (33, none), (34, none), (35, none), (36, none), (37, none), (38, none), (39, none), (40, none), (41, none), (42, none), (43, none), (44, none), (45, none), (46, none), (47, none), (48, none), (49, none), (50, none), (51, none)], none, [], [[]]⟩] ?_ ?_; decide +kernel; conv => whnf) | (refine brd (fun h => ?_) (fun h => ?_) <;> conv => whnf) | (refine br (fun h => ?_) (fun h => ?_) <;> conv => whnf) | (refine ret_now hE ?_; conv => whnf) | (intro hlen; conv => whnf) | (refine seg_here ?_; conv => whnf) | (refine both ?_ ?_ <;> conv => whnf))
  exact ⟨rfl, rfl⟩
theorem same_nodes_zero : Fn1 Tryd.prog 9 [.lst [zeroN], .lst [zeroN]] (fun r => r = .bool true) := by
  have h0 : ([zeroN] : List V)[0]? = some (.agg [.str [], .nils, .str [], .nils]) := rfl
  refine fn1E (T := Tryd.tt) Tryd.func9 rfl tt_all follows_all ?_ ?_ fun C hC hE => ?_
  · kernel_rfl
  · exact Nat.le_of_ble_eq_true (by kernel_rfl)
  conv => whnf
  repeat' (first | (refine brd_t (by first | assumption | omega) ?_; conv => whnf) | (refine brd_f (by first | assumption | omega) ?_; conv => whnf) | (refine ask (by first | assumption | omega) ?_; conv => whnf) | (refine fit64 (by omega) ?_; conv => whnf) | (refine fit (by simp only [kmin, kmax]; omega) ?_; conv => whnf) | (refine br_t (by assumption) ?_; conv => whnf) | (refine br_f (by assumption) ?_; conv => whnf) | (refine get_of (by assumption) ?_; conv => whnf) | (refine get_map (by assumption) ?_; conv => whnf) | (refine draw_lex hE ?_ ?_; decide +kernel; conv => whnf) | (refine draw_any hE [⟨0, [(0, none), (1, none), (2, none), (3, none), (4, none), (5, none), (6, none), (7, none), (8, none), (9, none), (10, none), (11, none), (12, none), (13, none), (14, none), (15, none), (16, none), (17, none), (18, none), (19, none), (20, none), (21, none), (22, none), (23, none), (24, none), (25, none), (26, none), (27, none), (28, none), (29, none), (30, none), (31, none), (32, none), (33, none), (34, none), (35, none), (36, none), (37, none), (38, none), (39, none), (40, none), (41, none), (42, none), (43, none), (44, none), (45, none), (46, none), (47, none), (48, none), (49, none), (50, none), (51, none)], none, [], [[]]⟩] ?_ ?_; decide +kernel; conv => whnf) | (refine brd (fun h => ?_) (fun h => ?_) <;> conv => whnf) | (refine br (fun h => ?_) (fun h => ?_) <;> conv => whnf) | (refine ret_now hE ?_; conv => whnf) | (intro hlen; conv => whnf) | (refine seg_here ?_; conv => whnf) | (refine both ?_ ?_ <;> conv => whnf))
  refine loopE (fun k : Nat => ⟨69, [(0, .lst [zeroN]), (1, .lst [zeroN]), (12, .int .i64 1), (13, .int .i64 k)], []⟩) (fun k => k ≤ 1) (fun k => 1 - k) 0 hE ?_ ?_ (by omega) ?_
  · kernel_rfl
  · exact at_keep [0, 1, 12, 13] rfl
  intro k hk
  by_cases hlt : k < 1
  · obtain rfl : k = 0 := by omega
    conv => whnf
    repeat' (first | (refine brd_t (by first | assumption | omega) ?_; conv => whnf) | (refine brd_f (by first | assumption | omega) ?_; conv => whnf) | (refine ask (by first | assumption | omega) ?_; conv => whnf) | (refine fit64 (by omega) ?_; conv => whnf) | (refine fit (by simp only [kmin, kmax]; omega) ?_; conv => whnf) | (refine br_t (by assumption) ?_; conv => whnf) | (refine br_f (by assumption) ?_; conv => whnf) | (refine get_of (by assumption) ?_; conv => whnf) | (refine get_map (by assumption) ?_; conv => whnf) | (refine call_eq (same_attrs_nil) hC hasBody_22 ?_ ?_ ?_; kernel_rfl; kernel_rfl; conv => whnf) | (refine callq_eq (same_attrs_nil) hC hasBody_22 ?_ ?_ ?_; kernel_rfl; kernel_rfl; conv => whnf) | (refine call_eq (same_nodes_nil) hC hasBody_9 ?_ ?_ ?_; kernel_rfl; kernel_rfl; conv => whnf) | (refine callq_eq (same_nodes_nil) hC hasBody_9 ?_ ?_ ?_; kernel_rfl; kernel_rfl; conv => whnf) | (refine draw_lex hE ?_ ?_; decide +kernel; conv => whnf) | (refine draw_any hE [⟨0, [(0, none), (1, none), (2, none), (3, none), (4, none), (5, none), (6, none), (7, none), (8, none), (9, none), (10, none), (11, none), (12, none), (13, none), (14, none), (15, none), (16, none), (17, none), (18, none), (19, none), (20, none), (21, none), (22, none), (23, none), (24, none), (25, none), (26, none), (27, none), (28, none), (29, none), (30, none), (31, none), (32, none), (33, none), (34, none), (35, none), (36, none), (37, none), (38, none), (39, none), (40, none), (41, none), (42, none), (43, none), (44, none), (45, none), (46, none), (47, none), (48, none), (49, none), (50, none), (51, none)], none, [], [[]]⟩] ?_ ?_; decide +kernel; conv => whnf) | (refine brd (fun h => ?_) (fun h => ?_) <;> conv => whnf) | (refine br (fun h => ?_) (fun h => ?_) <;> conv => whnf) | (refine ret_now hE ?_; conv => whnf) | (intro hlen; conv => whnf) | (refine seg_here ?_; conv => whnf) | (refine both ?_ ?_ <;> conv => whnf))
    all_goals first | exact next_keep [0, 1, 12, 13] 1 (by omega) (by omega) rfl | (exfalso; simp_all; done) | trace_state
  · obtain rfl : k = 1 := by omega
    conv => whnf
    repeat' (first | (refine brd_t (by first | assumption | omega) ?_; conv => whnf) | (refine brd_f (by first | assumption | omega) ?_; conv => whnf) | (refine ask (by first | assumption | omega) ?_; conv => whnf) | (refine fit64 (by omega) ?_; conv => whnf) | (refine fit (by simp only [kmin, kmax]; omega) ?_; conv => whnf) | (refine br_t (by assumption) ?_; conv => whnf) | (refine br_f (by assumption) ?_; conv => whnf) | (refine get_of (by assumption) ?_; conv => whnf) | (refine get_map (by assumption) ?_; conv => whnf) | (refine draw_lex hE ?_ ?_; decide +kernel; conv => whnf) | (refine draw_any hE [⟨0, [(0, none), (1, none), (2, none), (3, none), (4, none), (5, none), (6, none), (7, none), (8, none), (9, none), (10, none), (11, none), (12, none), (13, none), (14, none), (15, none), (16, none), (17, none), (18, none), (19, none), (20, none), (21, none), (22, none), (23, none), (24, none), (25, none), (26, none), (27, none), (28, none), (29, none), (30, none), (31, none), (32, none), (33, none), (34, none), (35, none), (36, none), (37, none), (38, none), (39, none), (40, none), (41, none), (42, none), (43, none), (44, none), (45, none), (46, none), (47, none), (48, none), (49, none), (50, none), (51, none)], none, [], [[]]⟩] ?_ ?_; decide +kernel; conv => whnf) | (refine brd (fun h => ?_) (fun h => ?_) <;> conv => whnf) | (refine br (fun h => ?_) (fun h => ?_) <;> conv => whnf) | (refine ret_now hE ?_; conv => whnf) | (intro hlen; conv => whnf) | (refine seg_here ?_; conv => whnf) | (refine both ?_ ?_ <;> conv => whnf))
    exact ⟨rfl, rfl⟩
end Go.Proofs.YtkkcmobnhiiacaaDoor

/-! Runs as nested elements: plain words; what both sides compute is the same. No conditions. -/
namespace Go.Proofs.YtkkcmobnhiiacaaDoor

abbrev Bs := List UInt8
def txN0 (t : Bs) : Nd := .mk [] [] t []
/-- An element without attributes. -/
def elN (n : Bs) (ps : List Nd) : Nd := .mk n [] [] ps
def mkP : List Bs → Bs → Nd
  | [], t => txN0 t
  | n :: ns, t => elN n [mkP ns t]
/-- How many at the start are the same. -/
def cpL : List Bs → List Bs → Nat
  | a :: xs, b :: ys => if a = b then cpL xs ys + 1 else 0
  | [], _ => 0
  | _ :: _, [] => 0
theorem cpL_nil (x : List Bs) : cpL [] x = 0 := by cases x <;> simp [cpL]
theorem cpL_nil2 (x : List Bs) : cpL x [] = 0 := by cases x <;> simp [cpL]
/-- A text put behind the others, so many elements going on. -/
def addT : List Nd → Nat → List Bs → Bs → List Nd
  | l, 0, ms, t => l ++ [mkP ms t]
  | l, o + 1, ms, t => match l.getLast? with
    | some x => l.dropLast ++ [elN x.name (addT x.parts o ms.tail t)]
    | none => l ++ [mkP ms t]
def goT : List Nd → List Bs → List (List Bs × Bs) → List Nd
  | out, _, [] => out
  | out, last, (ms, t) :: r => goT (addT out (cpL last ms) ms t) ms r
/-- The group at the start, by its first name. -/
def grp (m : Bs) : List (List Bs × Bs) → List (List Bs × Bs) × List (List Bs × Bs)
  | [] => ([], [])
  | ([], t) :: r => ([], ([], t) :: r)
  | (m' :: ms, t) :: r => if m' = m then ((ms, t) :: (grp m r).1, (grp m r).2) else ([], (m' :: ms, t) :: r)
def szR : List (List Bs × Bs) → Nat
  | [] => 0
  | (ms, _) :: r => ms.length + 1 + szR r
theorem grp_sz (m : Bs) : ∀ l, szR (grp m l).1 + (grp m l).1.length + szR (grp m l).2 = szR l
  | [] => rfl
  | ([], t) :: r => by simp [grp, szR]
  | (m' :: ms, t) :: r => by
    have ih := grp_sz m r
    rw [grp]
    split
    · simp only [szR, List.length_cons]; omega
    · simp [szR]
def nestS (f : Nat) : List (List Bs × Bs) → List Nd := match f with
  | 0 => fun _ => []
  | f + 1 => fun l => match l with
    | [] => []
    | ([], t) :: r => txN0 t :: nestS f r
    | (m :: ms, t) :: r => elN m (nestS f ((ms, t) :: (grp m r).1)) :: nestS f (grp m r).2
theorem addT_app (p : List Nd) {l : List Nd} (h : l ≠ []) (o : Nat) (ms : List Bs) (t : Bs) : addT (p ++ l) o ms t = p ++ addT l o ms t := by
  cases o with
  | zero => simp [addT]
  | succ o =>
    obtain ⟨q, x, rfl⟩ : ∃ q x, l = q ++ [x] := ⟨l.dropLast, l.getLast h, (List.dropLast_concat_getLast h).symm⟩
    rw [← List.append_assoc]
    simp [addT]
theorem addT_ne (l : List Nd) (o : Nat) (ms : List Bs) (t : Bs) : addT l o ms t ≠ [] := by
  cases o with
  | zero => simp [addT]
  | succ o =>
    rw [addT]
    split <;> simp
theorem goT_app (p : List Nd) : ∀ (r : List (List Bs × Bs)) (l : List Nd) (last : List Bs), l ≠ [] → goT (p ++ l) last r = p ++ goT l last r
  | [], l, last, _ => rfl
  | (ms, t) :: r, l, last, h => by
    rw [goT, goT, addT_app p h, goT_app p r _ ms (addT_ne l _ ms t)]
/-- Where nothing goes on, it begins anew. -/
theorem goT_new (l : List Nd) (last : List Bs) (r : List (List Bs × Bs)) (h : ∀ ms t r', r = (ms, t) :: r' → cpL last ms = 0) : goT l last r = l ++ goT [] [] r := by
  cases r with
  | nil => simp [goT]
  | cons x r =>
    obtain ⟨ms, t⟩ := x
    have hc := cpL_nil ms
    rw [goT, goT, h ms t r rfl, hc, addT, addT, goT_app l r _ ms (by simp), List.nil_append]
theorem goT_grp (m : Bs) : ∀ (r : List (List Bs × Bs)) (P : List Nd) (last : List Bs), ∃ last', goT [elN m P] (m :: last) r = goT [elN m (goT P last (grp m r).1)] (m :: last') (grp m r).2
  | [], P, last => ⟨last, rfl⟩
  | ([], t) :: r, P, last => ⟨last, rfl⟩
  | (m' :: ms, t) :: r, P, last => by
    rw [grp]
    by_cases h : m' = m
    · subst h
      rw [if_pos rfl]
      obtain ⟨last', hl⟩ := goT_grp m' r (addT P (cpL last ms) ms t) ms
      refine ⟨last', ?_⟩
      rw [goT, cpL, if_pos rfl, addT]
      simp only [List.getLast?_singleton, List.dropLast_singleton, List.nil_append, List.tail_cons]
      simp only [elN, Nd.name, Nd.parts] at hl ⊢
      rw [hl, goT]
    · rw [if_neg h]
      exact ⟨last, rfl⟩
theorem grp_next (m : Bs) (last : List Bs) : ∀ (r : List (List Bs × Bs)) ms t r', (grp m r).2 = (ms, t) :: r' → cpL (m :: last) ms = 0
  | [], ms, t, r', h => by cases h
  | ([], t0) :: r, ms, t, r', h => by
    simp only [grp, List.cons.injEq, Prod.mk.injEq] at h
    rw [← h.1.1]; exact cpL_nil2 _
  | (m' :: ms0, t0) :: r, ms, t, r', h => by
    rw [grp] at h
    by_cases e : m' = m
    · rw [if_pos e] at h
      exact grp_next m last r ms t r' h
    · rw [if_neg e] at h
      simp only [List.cons.injEq, Prod.mk.injEq] at h
      rw [← h.1.1, cpL, if_neg (fun g : m = m' => e g.symm)]
theorem goT_nest : ∀ (f : Nat) (l : List (List Bs × Bs)), szR l < f → goT [] [] l = nestS f l
  | 0, l, h => by omega
  | f + 1, [], h => rfl
  | f + 1, ([], t) :: r, h => by
    simp only [szR, List.length_nil] at h
    rw [goT, nestS]
    simp only [cpL_nil, addT, mkP, List.nil_append]
    rw [goT_new _ _ _ (fun ms t r' _ => cpL_nil ms), goT_nest f r (by omega)]
    rfl
  | f + 1, (m :: ms, t) :: r, h => by
    simp only [szR, List.length_cons] at h
    have hz := grp_sz m r
    have e0 : goT [] [] ((m :: ms, t) :: r) = goT [elN m [mkP ms t]] (m :: ms) r := by rw [goT, cpL_nil, addT, mkP]; rfl
    have hc := cpL_nil ms
    have e1 : goT [mkP ms t] ms (grp m r).1 = goT [] [] ((ms, t) :: (grp m r).1) := by rw [goT, hc, addT, List.nil_append]
    obtain ⟨last', hl⟩ := goT_grp m r [mkP ms t] ms
    rw [e0, hl, goT_new _ _ _ (fun ms t r' h => grp_next m last' r ms t r' h), e1, goT_nest f ((ms, t) :: (grp m r).1) (by simp only [szR]; omega), goT_nest f (grp m r).2 (by omega), nestS]
    rfl
end Go.Proofs.YtkkcmobnhiiacaaDoor

/-! marks.nest, walked. No conditions. -/
namespace Go.Proofs.YtkkcmobnhiiacaaDoor
open Go.RowKit

def prs (d : Nat) (l : List Rn) : List (List Bs × Bs) := l.map fun r => (r.marks.drop d, r.text)
def treeT (l : List (List Bs × Bs)) : List Nd := goT [] [] l
theorem tree_txt (t : Bs) (r : List (List Bs × Bs)) : treeT (([], t) :: r) = txN0 t :: treeT r := by
  unfold treeT
  rw [goT_nest (szR (([], t) :: r) + 1) _ (Nat.lt_succ_self _)]
  show txN0 t :: nestS (szR (([], t) :: r)) r = _
  rw [← goT_nest _ r (by simp [szR])]
theorem tree_el (m : Bs) (ms : List Bs) (t : Bs) (r : List (List Bs × Bs)) : treeT ((m :: ms, t) :: r) = elN m (treeT ((ms, t) :: (grp m r).1)) :: treeT (grp m r).2 := by
  have hz := grp_sz m r
  unfold treeT
  rw [goT_nest (szR ((m :: ms, t) :: r) + 1) _ (Nat.lt_succ_self _)]
  show elN m (nestS (szR ((m :: ms, t) :: r)) ((ms, t) :: (grp m r).1)) :: nestS (szR ((m :: ms, t) :: r)) (grp m r).2 = _
  rw [← goT_nest _ ((ms, t) :: (grp m r).1) (by simp only [szR, List.length_cons]; omega), ← goT_nest _ (grp m r).2 (by simp only [szR, List.length_cons]; omega)]
theorem drop_cons {α : Type} {l : List α} {k : Nat} {x : α} (h : l[k]? = some x) : l.drop k = x :: l.drop (k + 1) := by
  obtain ⟨h1, h2⟩ := List.getElem?_eq_some_iff.1 h
  rw [List.drop_eq_getElem_cons h1, h2]
theorem grp_take (m : Bs) (d : Nat) : ∀ (rest : List Rn) (n : Nat), n ≤ rest.length → (∀ j < n, ∀ q, rest[j]? = some q → q.marks[d]? = some m) → (∀ q, rest[n]? = some q → q.marks[d]? ≠ some m) → grp m (prs d rest) = (prs (d + 1) (rest.take n), prs d (rest.drop n))
  | [], n, h, _, _ => by
    have : n = 0 := by simpa using h
    subst this
    simp [prs, grp]
  | q :: rest, 0, _, _, h2 => by
    have hq := h2 q rfl
    simp only [prs, List.map_cons, List.take_zero, List.drop_zero, List.map_nil]
    cases hd : q.marks.drop d with
    | nil => rw [grp]
    | cons x xs =>
      have hx : q.marks[d]? = some x := by
        have := congrArg (fun l => l[0]?) hd
        simpa using this
      rw [grp, if_neg]
      intro e
      subst e
      exact hq hx
  | q :: rest, n + 1, h, h1, h2 => by
    have hq := h1 0 (Nat.succ_pos _) q rfl
    have ih := grp_take m d rest n (by simpa using h) (fun j hj x hx => h1 (j + 1) (by omega) x hx) (fun x hx => h2 x hx)
    simp only [prs, List.map_cons, List.take_succ_cons, List.drop_succ_cons] at ih ⊢
    rw [drop_cons hq, grp, if_pos rfl, ih]
theorem prs_drop {d : Nat} {l : List Rn} {k : Nat} {x : Rn} (h : l[k]? = some x) : prs d (l.drop k) = (x.marks.drop d, x.text) :: prs d (l.drop (k + 1)) := by rw [drop_cons h]; rfl
theorem szR_drop (d : Nat) (l : List Rn) (k : Nat) : szR (prs d (l.drop k)) ≤ szR (prs d l) := by
  induction l generalizing k with
  | nil => simp
  | cons x l ih =>
    cases k with
    | zero => exact Nat.le_refl _
    | succ k => have := ih k; simp only [List.drop_succ_cons, prs, List.map_cons, szR] at this ⊢; omega
theorem goT_len (r : List (List Bs × Bs)) : ∀ out last, (goT out last r).length ≤ out.length + r.length := by
  induction r with
  | nil => intro out last; simp [goT]
  | cons x r ih =>
    intro out last
    obtain ⟨ms, t⟩ := x
    rw [goT]
    have h1 := ih (addT out (cpL last ms) ms t) ms
    have h2 : (addT out (cpL last ms) ms t).length ≤ out.length + 1 := by
      cases cpL last ms with
      | zero => simp [addT]
      | succ o =>
        rw [addT]
        split <;> simp
    simp only [List.length_cons]; omega
theorem nest1 (q : Rn) (d : Nat) (m : Bs) (hd : d ≤ q.marks.length) : Fn1 Tryd.prog 53 (rnA q :: [.rp [.int .i64 d], .rp [.str m]]) (fun r => r = .bool (decide (¬ q.marks[d]? = some m))) := by
  obtain ⟨t, ms⟩ := q
  have hlm : (ms.map V.str).length = ms.length := by simp
  simp only at hd ⊢
  unfold rnA
  simp only
  by_cases h : ms.length = d
  · have e : ms[d]? = none := List.getElem?_eq_none (by omega)
    rw [e]
    refine fn1E (T := Tryd.tt) Tryd.func53 rfl tt_all follows_all ?_ ?_ fun C hC hE => ?_
    · kernel_rfl
    · exact Nat.le_of_ble_eq_true (by kernel_rfl)
    conv => whnf
    repeat' (first | (refine brd_t (by first | assumption | omega) ?_; conv => whnf) | (refine brd_f (by first | assumption | omega) ?_; conv => whnf) | (refine ask (by first | assumption | omega) ?_; conv => whnf) | (refine fit64 (by omega) ?_; conv => whnf) | (refine fit (by simp only [kmin, kmax]; omega) ?_; conv => whnf) | (refine br_t (by assumption) ?_; conv => whnf) | (refine br_f (by assumption) ?_; conv => whnf) | (refine get_of (by assumption) ?_; conv => whnf) | (refine get_map (by assumption) ?_; conv => whnf) | (refine draw_lex hE ?_ ?_; decide +kernel; conv => whnf) | (refine draw_any hE [⟨0, [(0, none), (1, none), (2, none), (3, none), (4, none), (5, none), (6, none), (7, none), (8, none), (9, none), (10, none), (11, none), (12, none), (13, none), (14, none)], none, [], [[]]⟩] ?_ ?_; decide +kernel; conv => whnf) | (refine brd (fun h => ?_) (fun h => ?_) <;> conv => whnf) | (refine br (fun h => ?_) (fun h => ?_) <;> conv => whnf) | (refine ret_now hE ?_; conv => whnf) | (intro hlen; conv => whnf) | (refine seg_here ?_; conv => whnf) | (refine both ?_ ?_ <;> conv => whnf))
    all_goals exact ⟨rfl, rfl⟩
  · obtain ⟨x, hx⟩ : ∃ x, ms[d]? = some x := ⟨_, List.getElem?_eq_getElem (by omega)⟩
    have hx' : (ms.map V.str)[(d : Int).toNat]? = some (.str x) := by rw [Int.toNat_natCast, List.getElem?_map, hx]; rfl
    rw [hx]
    by_cases e : x = m
    · subst e
      rw [decide_eq_false (by simp)]
      refine fn1E (T := Tryd.tt) Tryd.func53 rfl tt_all follows_all ?_ ?_ fun C hC hE => ?_
      · kernel_rfl
      · exact Nat.le_of_ble_eq_true (by kernel_rfl)
      conv => whnf
      repeat' (first | (refine brd_t (by first | assumption | omega) ?_; conv => whnf) | (refine brd_f (by first | assumption | omega) ?_; conv => whnf) | (refine ask (by first | assumption | omega) ?_; conv => whnf) | (refine fit64 (by omega) ?_; conv => whnf) | (refine fit (by simp only [kmin, kmax]; omega) ?_; conv => whnf) | (refine br_t (by assumption) ?_; conv => whnf) | (refine br_f (by assumption) ?_; conv => whnf) | (refine get_of (by assumption) ?_; conv => whnf) | (refine get_map (by assumption) ?_; conv => whnf) | (refine brd_t rfl ?_; conv => whnf) | (refine draw_lex hE ?_ ?_; decide +kernel; conv => whnf) | (refine draw_any hE [⟨0, [(0, none), (1, none), (2, none), (3, none), (4, none), (5, none), (6, none), (7, none), (8, none), (9, none), (10, none), (11, none), (12, none), (13, none), (14, none)], none, [], [[]]⟩] ?_ ?_; decide +kernel; conv => whnf) | (refine brd (fun h => ?_) (fun h => ?_) <;> conv => whnf) | (refine br (fun h => ?_) (fun h => ?_) <;> conv => whnf) | (refine ret_now hE ?_; conv => whnf) | (intro hlen; conv => whnf) | (refine seg_here ?_; conv => whnf) | (refine both ?_ ?_ <;> conv => whnf))
      all_goals exact ⟨rfl, rfl⟩
    · rw [decide_eq_true (by simp [e])]
      refine fn1E (T := Tryd.tt) Tryd.func53 rfl tt_all follows_all ?_ ?_ fun C hC hE => ?_
      · kernel_rfl
      · exact Nat.le_of_ble_eq_true (by kernel_rfl)
      conv => whnf
      repeat' (first | (refine brd_t (by first | assumption | omega) ?_; conv => whnf) | (refine brd_f (by first | assumption | omega) ?_; conv => whnf) | (refine ask (by first | assumption | omega) ?_; conv => whnf) | (refine fit64 (by omega) ?_; conv => whnf) | (refine fit (by simp only [kmin, kmax]; omega) ?_; conv => whnf) | (refine br_t (by assumption) ?_; conv => whnf) | (refine br_f (by assumption) ?_; conv => whnf) | (refine get_of (by assumption) ?_; conv => whnf) | (refine get_map (by assumption) ?_; conv => whnf) | (refine draw_lex hE ?_ ?_; decide +kernel; conv => whnf) | (refine draw_any hE [⟨0, [(0, none), (1, none), (2, none), (3, none), (4, none), (5, none), (6, none), (7, none), (8, none), (9, none), (10, none), (11, none), (12, none), (13, none), (14, none)], none, [], [[]]⟩] ?_ ?_; decide +kernel; conv => whnf) | (refine brd (fun h => ?_) (fun h => ?_) <;> conv => whnf) | (refine br (fun h => ?_) (fun h => ?_) <;> conv => whnf) | (refine ret_now hE ?_; conv => whnf) | (intro hlen; conv => whnf) | (refine seg_here ?_; conv => whnf) | (refine both ?_ ?_ <;> conv => whnf))
      all_goals exact ⟨rfl, rfl⟩
theorem indexFunc_52 (l : List Rn) (h : FuncId) (caps : List V) (p : Rn → Bool) (hb : hasBody Tryd.prog h = true) (hc : nrB caps = true) (hp : ∀ a ∈ l, Fn1 Tryd.prog h (rnA a :: caps) (fun r => r = .bool (p a))) :
    Fn1 Tryd.prog 52 [.lst (l.map rnA), .fn h caps] (fun r => r = .int .i64 (idxOf p l)) := by
  refine fn1E (T := Tryd.tt) Tryd.func52 rfl tt_all follows_all ?_ ?_ fun C hC hE => ?_
  · kernel_rfl
  · exact Nat.le_of_ble_eq_true (by kernel_rfl)
  conv => whnf
  intro hl
  conv => whnf
  refine loopE (fun k : Nat => ⟨19, [(0, .lst (l.map rnA)), (1, .fn h caps), (7, .int .i64 (l.map rnA).length), (8, .int .i64 k)], []⟩) (fun k => k ≤ l.length ∧ ∀ j < k, ∀ x, l[j]? = some x → p x = false) (fun k => l.length - k) 0 hE ?_ ?_ ?_ ?_
  · kernel_rfl
  · exact at_keep [0, 1, 7, 8] rfl
  · exact ⟨Nat.zero_le _, fun j hj => by omega⟩
  intro k hkj
  obtain ⟨hk, hj⟩ := hkj
  have hlm : (l.map rnA).length = l.length := by simp
  by_cases hlt : k < l.length
  · obtain ⟨x, hx⟩ : ∃ x, l[k]? = some x := ⟨_, List.getElem?_eq_getElem hlt⟩
    have hpx := hp x (List.mem_of_getElem? hx)
    conv => whnf
    repeat' (first | (refine brd_t (by first | assumption | omega) ?_; conv => whnf) | (refine brd_f (by first | assumption | omega) ?_; conv => whnf) | (refine ask (by first | assumption | omega) ?_; conv => whnf) | (refine fit64 (by omega) ?_; conv => whnf) | (refine fit (by simp only [kmin, kmax]; omega) ?_; conv => whnf) | (refine br_t (by assumption) ?_; conv => whnf) | (refine br_f (by assumption) ?_; conv => whnf) | (refine get_of (by assumption) ?_; conv => whnf) | (refine get_map (by assumption) ?_; conv => whnf) | (refine call_eq hpx hC hb ?_ ?_ ?_; kernel_rfl; exact nrB_tail (by kernel_rfl) hc; conv => whnf) | (refine draw_lex hE ?_ ?_; decide +kernel; conv => whnf) | (refine brd (fun h => ?_) (fun h => ?_) <;> conv => whnf) | (refine br (fun h => ?_) (fun h => ?_) <;> conv => whnf) | (refine ret_now hE ?_; conv => whnf) | (intro hlen; conv => whnf) | (refine seg_here ?_; conv => whnf) | (refine both ?_ ?_ <;> conv => whnf))
    · exact ⟨rfl, by rw [idxOf_hit hx (by assumption) hj]⟩
    · refine next_keep [0, 1, 7, 8] (k + 1) ⟨hlt, ?_⟩ (by omega) rfl
      intro j hjk y hy
      by_cases e : j = k
      · subst e; rw [hx] at hy; cases hy; assumption
      · exact hj j (by omega) y hy
  · conv => whnf
    repeat' (first | (refine brd_t (by first | assumption | omega) ?_; conv => whnf) | (refine brd_f (by first | assumption | omega) ?_; conv => whnf) | (refine ask (by first | assumption | omega) ?_; conv => whnf) | (refine fit64 (by omega) ?_; conv => whnf) | (refine fit (by simp only [kmin, kmax]; omega) ?_; conv => whnf) | (refine br_t (by assumption) ?_; conv => whnf) | (refine br_f (by assumption) ?_; conv => whnf) | (refine get_of (by assumption) ?_; conv => whnf) | (refine get_map (by assumption) ?_; conv => whnf) | (refine draw_lex hE ?_ ?_; decide +kernel; conv => whnf) | (refine brd (fun h => ?_) (fun h => ?_) <;> conv => whnf) | (refine br (fun h => ?_) (fun h => ?_) <;> conv => whnf) | (refine ret_now hE ?_; conv => whnf) | (intro hlen; conv => whnf) | (refine seg_here ?_; conv => whnf) | (refine both ?_ ?_ <;> conv => whnf))
    exact ⟨rfl, by rw [idxOf_miss (fun x hx => by obtain ⟨j, hj'⟩ := List.mem_iff_getElem?.1 hx; exact hj j (by have := (List.getElem?_eq_some_iff.1 hj').1; omega) x hj')]⟩

end Go.Proofs.YtkkcmobnhiiacaaDoor

/-! marks.nest, walked: the loop. No conditions. -/
namespace Go.Proofs.YtkkcmobnhiiacaaDoor
open Go.RowKit

theorem txN0_A (t : Bs) : nodeA (txN0 t) = .agg [.str [], .lst [], .str t, .lst []] := by unfold txN0; rw [nodeA_mk]; simp [nodesL]
theorem elN_A (m : Bs) (ps : List Nd) : nodeA (elN m ps) = .agg [.str m, .lst [], .str [], .lst (nodesL ps)] := by unfold elN; rw [nodeA_mk]; rfl
/-- Where the group at the start ends. -/
theorem grp_end (d : Nat) (m : Bs) (L : List Rn) (h0 : ∀ q, L[0]? = some q → q.marks[d]? = some m) (hL : L ≠ []) : ∃ n : Nat, 0 < n ∧ n ≤ L.length ∧ (∀ j < n, ∀ q, L[j]? = some q → q.marks[d]? = some m) ∧ (∀ q, L[n]? = some q → q.marks[d]? ≠ some m) ∧
    ((n < L.length ∧ idxOf (fun q : Rn => decide (¬ q.marks[d]? = some m)) L = n) ∨ (n = L.length ∧ idxOf (fun q : Rn => decide (¬ q.marks[d]? = some m)) L = -1)) := by
  have hpos := List.length_pos_iff.2 hL
  have key : (∀ q ∈ L, q.marks[d]? = some m) ∨ ∃ (k : Nat) (q : Rn), L[k]? = some q ∧ q.marks[d]? ≠ some m ∧ ∀ j < k, ∀ y, L[j]? = some y → y.marks[d]? = some m := by
    clear h0 hL hpos
    induction L with
    | nil => exact .inl fun x hx => by cases hx
    | cons a l ih =>
      by_cases hp : a.marks[d]? = some m
      · rcases ih with ih | ⟨k, x, h1, h2, h3⟩
        · exact .inl fun x hx => by
            rcases List.mem_cons.1 hx with rfl | hx
            · exact hp
            · exact ih x hx
        · refine .inr ⟨k + 1, x, h1, h2, fun j hj y hy => ?_⟩
          cases j with
          | zero => simp at hy; subst hy; exact hp
          | succ j => exact h3 j (by omega) y (by simpa using hy)
      · exact .inr ⟨0, a, rfl, hp, fun j hj => by omega⟩
  rcases key with h | ⟨k, q, h1, h2, h3⟩
  · refine ⟨L.length, hpos, Nat.le_refl _, fun j hj q hq => h q (List.mem_of_getElem? hq), (fun q hq => by rw [List.getElem?_eq_none (Nat.le_refl _)] at hq; cases hq), .inr ⟨rfl, idxOf_miss fun x hx => decide_eq_false (fun g => g (h x hx))⟩⟩
  · have hk := (List.getElem?_eq_some_iff.1 h1).1
    refine ⟨k, ?_, by omega, h3, fun x hx => by rw [h1] at hx; cases hx; exact h2, .inl ⟨hk, idxOf_hit h1 (decide_eq_true h2) fun j hj x hx => decide_eq_false (fun g => g (h3 j hj x hx))⟩⟩
    rcases Nat.eq_zero_or_pos k with e | e
    · subst e; exact absurd (h0 q h1) h2
    · exact e
set_option maxHeartbeats 8000000 in
theorem marks_nest : ∀ (N : Nat) (l : List Rn) (d : Nat), szR (prs d l) ≤ N → d ≤ 4 → l.length ≤ 1048576 → (∀ r ∈ l, d ≤ r.marks.length ∧ r.marks.length ≤ 4) → Fn1 Tryd.prog 19 [.lst (l.map rnA), .int .i64 d] (fun r => r = .lst (nodesL (treeT (prs d l)))) := by
  intro N
  induction N using Nat.strongRecOn with
  | _ N ih =>
    intro l d hN hd4 hl hm
    refine fn1E (T := Tryd.tt) Tryd.func19 rfl tt_all follows_all ?_ ?_ fun C hC hE => ?_
    · kernel_rfl
    · exact Nat.le_of_ble_eq_true (by kernel_rfl)
    conv => whnf
    repeat' (first | (refine brd_t (by first | assumption | omega) ?_; conv => whnf) | (refine brd_f (by first | assumption | omega) ?_; conv => whnf) | (refine ask (by first | assumption | omega) ?_; conv => whnf) | (refine fit64 (by omega) ?_; conv => whnf) | (refine fit (by simp only [kmin, kmax]; omega) ?_; conv => whnf) | (refine br_t (by assumption) ?_; conv => whnf) | (refine br_f (by assumption) ?_; conv => whnf) | (refine get_of (by assumption) ?_; conv => whnf) | (refine get_map (by assumption) ?_; conv => whnf) | (refine draw_lex hE ?_ ?_; decide +kernel; conv => whnf) | (refine draw_any hE [⟨0, [(0, none), (1, none), (2, none), (3, none), (4, none), (5, none), (6, none)], none, [], [[]]⟩] ?_ ?_; decide +kernel; conv => whnf) | (refine draw_any hE [⟨1, [(0, none), (1, none), (2, none), (3, none), (4, none), (5, none), (6, none), (7, some 0)], some 8, [], [[]]⟩] ?_ ?_; decide +kernel; conv => whnf) | (refine draw_any hE [⟨1, [(0, none), (1, none), (2, none), (3, none), (4, none), (5, none), (6, none), (7, none), (8, none), (9, some 0)], some 10, [], [[]]⟩, ⟨0, [(11, none)], none, [], [[]]⟩] ?_ ?_; decide +kernel; conv => whnf) | (refine brd (fun h => ?_) (fun h => ?_) <;> conv => whnf) | (refine br (fun h => ?_) (fun h => ?_) <;> conv => whnf) | (refine ret_now hE ?_; conv => whnf) | (intro hlen; conv => whnf) | (refine seg_here ?_; conv => whnf) | (refine both ?_ ?_ <;> conv => whnf))
    refine loopE (fun ((k, out) : Nat × List Nd) => ⟨57, [(0, .lst ((l.drop k).map rnA)), (3, .rp [.int .i64 d]), (5, .sl 0 0 out.length)], [some (.row 4 (nodesL out))]⟩) (fun (k, out) => k ≤ l.length ∧ out.length ≤ k ∧ out ++ treeT (prs d (l.drop k)) = treeT (prs d l)) (fun (k, _) => l.length - k) (0, []) hE ?_ ?_ ⟨Nat.zero_le _, Nat.le_refl _, rfl⟩ ?_
    · kernel_rfl
    · refine up_freeze 0 (z := 1) (els := [.int .i64 d]) rfl ⟨trivial, trivial⟩ (up_own 5 4 rfl rfl (at_keep [0, 3, 5] ?_))
      show _ = (⟨57, [(0, .lst (l.map rnA)), (3, .rp [.int .i64 d]), (5, .sl 0 0 0)], [some (.row 4 (nodesL []))]⟩ : ES)
      rw [nodesL]
      rfl
    rintro ⟨k, out⟩ ⟨hk, ho, hI⟩
    have hlm : ((l.drop k).map rnA).length = l.length - k := by simp
    have hon := nodesL_length out
    have htk : List.take out.length (List.drop 0 (nodesL out)) = nodesL out := by rw [List.drop_zero]; exact List.take_of_length_le (by omega)
    by_cases hlt : k < l.length
    · obtain ⟨x, hx⟩ : ∃ x, l[k]? = some x := ⟨_, List.getElem?_eq_getElem hlt⟩
      have hxm := hm x (List.mem_of_getElem? hx)
      obtain ⟨t, ms⟩ := x
      simp only at hxm
      have hsm : (ms.map V.str).length = ms.length := by simp
      have hdc := drop_cons hx
      have hx0 : ((l.drop k).map rnA)[(0 : Int).toNat]? = some (.agg [.str t, .lst (ms.map V.str)]) := by rw [hdc]; rfl
      have hpd := prs_drop (d := d) hx
      have hd1 : List.drop (Int.toNat 1) ((l.drop k).map rnA) = (l.drop (k + 1)).map rnA := by rw [hdc]; rfl
      have hsz := szR_drop d l k
      by_cases he : ms.length = d
      · simp only at hpd
        rw [show ms.drop d = [] from List.drop_eq_nil_of_le (by omega)] at hpd
        rw [hpd, tree_txt] at hI
        have hA : nodesL (out ++ [txN0 t]) = nodesL out ++ [.agg [.str [], .lst [], .str t, .lst []]] := by rw [nodesL_append]; simp [nodesL, txN0_A]
        have hL : (out ++ [txN0 t]).length = out.length + 1 := by simp
        conv => whnf
        repeat' (first | (refine brd_t (by first | assumption | omega) ?_; conv => whnf) | (refine brd_f (by first | assumption | omega) ?_; conv => whnf) | (refine ask (by first | assumption | omega) ?_; conv => whnf) | (refine fit64 (by omega) ?_; conv => whnf) | (refine fit (by simp only [kmin, kmax]; omega) ?_; conv => whnf) | (refine br_t (by assumption) ?_; conv => whnf) | (refine br_f (by assumption) ?_; conv => whnf) | (refine get_of (by assumption) ?_; conv => whnf) | (refine get_map (by assumption) ?_; conv => whnf) | (refine ⟨cells_rn _, ?_⟩; conv => whnf) | (refine ask (Nat.le_refl 1) ?_; conv => whnf) | (refine ask ⟨?_, ?_, ?_⟩ ?_; (first | omega | (simp; omega)); (show _ + 1 ≤ 9223372036854775807; omega); (show (_ + 1) * 80 ≤ 140737488355328; omega); conv => whnf) | (refine draw_lex hE ?_ ?_; decide +kernel; conv => whnf) | (refine draw_any hE [⟨0, [(0, none), (1, none), (2, none), (3, none), (4, none), (5, none), (6, none)], none, [], [[]]⟩] ?_ ?_; decide +kernel; conv => whnf) | (refine draw_any hE [⟨1, [(0, none), (1, none), (2, none), (3, none), (4, none), (5, none), (6, none), (7, some 0)], some 8, [], [[]]⟩] ?_ ?_; decide +kernel; conv => whnf) | (refine draw_any hE [⟨1, [(0, none), (1, none), (2, none), (3, none), (4, none), (5, none), (6, none), (7, none), (8, none), (9, some 0)], some 10, [], [[]]⟩, ⟨0, [(11, none)], none, [], [[]]⟩] ?_ ?_; decide +kernel; conv => whnf) | (refine brd (fun h => ?_) (fun h => ?_) <;> conv => whnf) | (refine br (fun h => ?_) (fun h => ?_) <;> conv => whnf) | (refine ret_now hE ?_; conv => whnf) | (intro hlen; conv => whnf) | (refine seg_here ?_; conv => whnf) | (refine both ?_ ?_ <;> conv => whnf))
        refine up_nl 0 rfl (next_drop [0, 3, 5] [1] (k + 1, out ++ [txN0 t]) ⟨hlt, by rw [hL]; omega, by rw [List.append_assoc]; exact hI⟩ (show l.length - (k + 1) < l.length - k by omega) ?_)
        conv => whnf
        simp only [htk, killL_app, kill_nds, nlL_append, nl_nodes, hd1, hA, hL]
        rfl
      · obtain ⟨m, hmd⟩ : ∃ m, ms[d]? = some m := ⟨_, List.getElem?_eq_getElem (by omega)⟩
        have hmd' : (ms.map V.str)[(d : Int).toNat]? = some (.str m) := by rw [Int.toNat_natCast, List.getElem?_map, hmd]; rfl
        obtain ⟨n, hn0, hnL, hn1, hn2, hn3⟩ := grp_end d m (l.drop k) (fun q hq => by rw [hdc] at hq; cases hq; exact hmd) (by rw [hdc]; simp)
        have hix := indexFunc_52 (l.drop k) 53 [.rp [.int .i64 d], .rp [.str m]] (fun q : Rn => decide (¬ q.marks[d]? = some m)) hasBody_53 rfl (fun q hq => nest1 q d m (hm q (List.mem_of_mem_drop hq)).1)
        have hnl : n ≤ l.length - k := by simpa using hnL
        have hg := grp_take m d (l.drop (k + 1)) (n - 1) (by simp; omega) (fun j hj q hq => hn1 (j + 1) (by omega) q (by rw [hdc]; exact hq)) (fun q hq => hn2 q (by rw [hdc, show n = (n - 1) + 1 by omega]; exact hq))
        have hgs := grp_sz m (prs d (l.drop (k + 1)))
        have hpt : prs (d + 1) ((l.drop k).take n) = (ms.drop (d + 1), t) :: prs (d + 1) ((l.drop (k + 1)).take (n - 1)) := by rw [hdc, show n = (n - 1) + 1 by omega, List.take_succ_cons]; rfl
        have hpe : prs d ((l.drop (k + 1)).drop (n - 1)) = prs d (l.drop (k + n)) := by rw [List.drop_drop, show k + 1 + (n - 1) = k + n by omega]
        simp only at hpd
        rw [drop_cons hmd] at hpd
        have hT : treeT (prs d (l.drop k)) = elN m (treeT (prs (d + 1) ((l.drop k).take n))) :: treeT (prs d (l.drop (k + n))) := by rw [hpd, tree_el, hg, hpt, ← hpe]
        have hih := ih (szR (prs (d + 1) ((l.drop k).take n))) (by
          rw [hg] at hgs
          simp only at hgs
          rw [hpd] at hsz
          rw [hpt]
          simp only [szR, List.length_cons] at hsz ⊢
          have : (ms.drop (d + 1)).length ≤ ms.length := by simp
          simp only [List.length_drop] at hsz ⊢
          omega) ((l.drop k).take n) (d + 1) (Nat.le_refl _) (by omega) (by simp; omega) (fun q hq => by
            obtain ⟨j, hj⟩ := List.mem_iff_getElem?.1 hq
            rw [List.getElem?_take] at hj
            split at hj
            · have h1 := (List.getElem?_eq_some_iff.1 (hn1 j ‹_› q hj)).1
              exact ⟨by omega, (hm q (List.mem_of_mem_drop (List.mem_of_getElem? hj))).2⟩
            · cases hj)
        rw [show ((d + 1 : Nat) : Int) = (d : Int) + 1 by omega, List.map_take] at hih
        have hnt : (n : Int).toNat = n := Int.toNat_natCast n
        have hdn : List.drop n ((l.drop k).map rnA) = (l.drop (k + n)).map rnA := by rw [← List.map_drop, List.drop_drop]
        have hfz : frzL 1 [.str m] (nodesL out) = nodesL out := frz_nrL _ _ (nodesL_nr _)
        rw [hT] at hI
        generalize treeT (prs (d + 1) ((l.drop k).take n)) = G at hih hI
        conv => whnf
        repeat' (first | (refine brd_t (by first | assumption | omega) ?_; conv => whnf) | (refine brd_f (by first | assumption | omega) ?_; conv => whnf) | (refine ask (by first | assumption | omega) ?_; conv => whnf) | (refine fit64 (by omega) ?_; conv => whnf) | (refine fit (by simp only [kmin, kmax]; omega) ?_; conv => whnf) | (refine br_t (by assumption) ?_; conv => whnf) | (refine br_f (by assumption) ?_; conv => whnf) | (refine get_of (by assumption) ?_; conv => whnf) | (refine get_map (by assumption) ?_; conv => whnf) | (refine ⟨cells_rn _, ?_⟩; conv => whnf) | (refine draw_lex hE ?_ ?_; decide +kernel; conv => whnf) | (refine draw_any hE [⟨0, [(0, none), (1, none), (2, none), (3, none), (4, none), (5, none), (6, none)], none, [], [[]]⟩] ?_ ?_; decide +kernel; conv => whnf) | (refine draw_any hE [⟨1, [(0, none), (1, none), (2, none), (3, none), (4, none), (5, none), (6, none), (7, some 0)], some 8, [], [[]]⟩] ?_ ?_; decide +kernel; conv => whnf) | (refine draw_any hE [⟨1, [(0, none), (1, none), (2, none), (3, none), (4, none), (5, none), (6, none), (7, none), (8, none), (9, some 0)], some 10, [], [[]]⟩, ⟨0, [(11, none)], none, [], [[]]⟩] ?_ ?_; decide +kernel; conv => whnf) | (refine brd (fun h => ?_) (fun h => ?_) <;> conv => whnf) | (refine br (fun h => ?_) (fun h => ?_) <;> conv => whnf) | (refine ret_now hE ?_; conv => whnf) | (intro hlen; conv => whnf) | (refine seg_here ?_; conv => whnf) | (refine both ?_ ?_ <;> conv => whnf))
        refine call_up (up_freeze 1 (z := 1) (els := [.str m]) rfl ⟨trivial, trivial⟩ (up_at [0, 3, 5, 6, 35, 36]
          (σ' := ⟨57, [(0, .lst ((l.drop k).map rnA)), (3, .rp [.int .i64 d]), (5, .sl 0 0 out.length), (6, .rp [.str m]), (35, .lst ((l.drop k).map rnA)), (36, .fn 53 [.rp [.int .i64 d], .rp [.str m]])], [some (.row 4 (nodesL out)), none]⟩)
          (Eq.trans (b := (⟨57, [(0, .lst ((l.drop k).map rnA)), (3, .rp [.int .i64 d]), (5, .sl 0 0 out.length), (6, .rp [.str m]), (35, .lst ((l.drop k).map rnA)), (36, .fn 53 [.rp [.int .i64 d], .rp [.str m]])], [some (.row 4 (frzL 1 [.str m] (nodesL out))), none]⟩ : ES)) ?_ ?_) ?_))
        · kernel_rfl
        · rw [hfz]
        have hA : nodesL (out ++ [elN m G]) = nodesL out ++ [.agg [.str m, .lst [], .str [], .lst (nodesL G)]] := by rw [nodesL_append]; simp [nodesL, elN_A]
        have hL : (out ++ [elN m G]).length = out.length + 1 := by simp
        have hB : nlL (killL 0 (List.take 1 (List.drop 0 [V.agg [V.str m, V.nils, V.str [], V.lst (nodesL G)]]))) = [V.agg [V.str m, V.lst [], V.str [], V.lst (nodesL G)]] := by
          rw [show killL 0 (List.take 1 (List.drop 0 [V.agg [V.str m, V.nils, V.str [], V.lst (nodesL G)]])) = [V.agg [V.str m, V.nils, V.str [], V.lst (nodesL G)]] from rfl]
          simp [nlL, V.nl, nl_nodes]
        rcases hn3 with ⟨hnlt, hi⟩ | ⟨hne, hi⟩
        · rw [hi] at hix
          conv => whnf
          repeat' (first | (refine brd_t (by first | assumption | omega) ?_; conv => whnf) | (refine brd_f (by first | assumption | omega) ?_; conv => whnf) | (refine ask (by first | assumption | omega) ?_; conv => whnf) | (refine fit64 (by omega) ?_; conv => whnf) | (refine fit (by simp only [kmin, kmax]; omega) ?_; conv => whnf) | (refine br_t (by assumption) ?_; conv => whnf) | (refine br_f (by assumption) ?_; conv => whnf) | (refine get_of (by assumption) ?_; conv => whnf) | (refine get_map (by assumption) ?_; conv => whnf) | (refine call_eq (hix) hC hasBody_52 ?_ ?_ ?_; kernel_rfl; kernel_rfl; conv => whnf) | (refine callq_eq (hix) hC hasBody_52 ?_ ?_ ?_; kernel_rfl; kernel_rfl; conv => whnf) | (refine call_eq (hih) hC hasBody_19 ?_ ?_ ?_; kernel_rfl; kernel_rfl; conv => whnf) | (refine callq_eq (hih) hC hasBody_19 ?_ ?_ ?_; kernel_rfl; kernel_rfl; conv => whnf) | (refine ⟨cells_rn _, ?_⟩; conv => whnf) | (refine ask (Nat.le_refl 1) ?_; conv => whnf) | (refine ask ⟨?_, ?_, ?_⟩ ?_; (first | omega | (simp; omega)); (show _ + 1 ≤ 9223372036854775807; omega); (show (_ + 1) * 80 ≤ 140737488355328; omega); conv => whnf) | (refine draw_lex hE ?_ ?_; decide +kernel; conv => whnf) | (refine draw_any hE [⟨0, [(0, none), (1, none), (2, none), (3, none), (4, none), (5, none), (6, none)], none, [], [[]]⟩] ?_ ?_; decide +kernel; conv => whnf) | (refine draw_any hE [⟨1, [(0, none), (1, none), (2, none), (3, none), (4, none), (5, none), (6, none), (7, some 0)], some 8, [], [[]]⟩] ?_ ?_; decide +kernel; conv => whnf) | (refine draw_any hE [⟨1, [(0, none), (1, none), (2, none), (3, none), (4, none), (5, none), (6, none), (7, none), (8, none), (9, some 0)], some 10, [], [[]]⟩, ⟨0, [(11, none)], none, [], [[]]⟩] ?_ ?_; decide +kernel; conv => whnf) | (refine brd (fun h => ?_) (fun h => ?_) <;> conv => whnf) | (refine br (fun h => ?_) (fun h => ?_) <;> conv => whnf) | (refine ret_now hE ?_; conv => whnf) | (intro hlen; conv => whnf) | (refine seg_here ?_; conv => whnf) | (refine both ?_ ?_ <;> conv => whnf))
          refine up_nl 0 rfl (next_drop [0, 3, 5] [1, 2] (k + n, out ++ [elN m G]) ⟨by omega, by rw [hL]; omega, by rw [List.append_assoc]; exact hI⟩ (show l.length - (k + n) < l.length - k by omega) ?_)
          conv => whnf
          simp only [htk, killL_app, kill_nds, nlL_append, nl_nodes, hB, hnt, hdn, hA, hL]
          rfl
        · rw [hi] at hix
          have hne2 : n = ((l.drop k).map rnA).length := by rw [hlm, hne]; simp
          rw [hne2] at hih
          have hdn : List.drop (((l.drop k).map rnA).length : Int).toNat ((l.drop k).map rnA) = (l.drop (k + n)).map rnA := by rw [← hne2, hnt, hdn]
          conv => whnf
          repeat' (first | (refine brd_t (by first | assumption | omega) ?_; conv => whnf) | (refine brd_f (by first | assumption | omega) ?_; conv => whnf) | (refine ask (by first | assumption | omega) ?_; conv => whnf) | (refine fit64 (by omega) ?_; conv => whnf) | (refine fit (by simp only [kmin, kmax]; omega) ?_; conv => whnf) | (refine br_t (by assumption) ?_; conv => whnf) | (refine br_f (by assumption) ?_; conv => whnf) | (refine get_of (by assumption) ?_; conv => whnf) | (refine get_map (by assumption) ?_; conv => whnf) | (refine call_eq (hix) hC hasBody_52 ?_ ?_ ?_; kernel_rfl; kernel_rfl; conv => whnf) | (refine callq_eq (hix) hC hasBody_52 ?_ ?_ ?_; kernel_rfl; kernel_rfl; conv => whnf) | (refine call_eq (hih) hC hasBody_19 ?_ ?_ ?_; kernel_rfl; kernel_rfl; conv => whnf) | (refine callq_eq (hih) hC hasBody_19 ?_ ?_ ?_; kernel_rfl; kernel_rfl; conv => whnf) | (refine ⟨cells_rn _, ?_⟩; conv => whnf) | (refine ask (Nat.le_refl 1) ?_; conv => whnf) | (refine ask ⟨?_, ?_, ?_⟩ ?_; (first | omega | (simp; omega)); (show _ + 1 ≤ 9223372036854775807; omega); (show (_ + 1) * 80 ≤ 140737488355328; omega); conv => whnf) | (refine draw_lex hE ?_ ?_; decide +kernel; conv => whnf) | (refine draw_any hE [⟨0, [(0, none), (1, none), (2, none), (3, none), (4, none), (5, none), (6, none)], none, [], [[]]⟩] ?_ ?_; decide +kernel; conv => whnf) | (refine draw_any hE [⟨1, [(0, none), (1, none), (2, none), (3, none), (4, none), (5, none), (6, none), (7, some 0)], some 8, [], [[]]⟩] ?_ ?_; decide +kernel; conv => whnf) | (refine draw_any hE [⟨1, [(0, none), (1, none), (2, none), (3, none), (4, none), (5, none), (6, none), (7, none), (8, none), (9, some 0)], some 10, [], [[]]⟩, ⟨0, [(11, none)], none, [], [[]]⟩] ?_ ?_; decide +kernel; conv => whnf) | (refine brd (fun h => ?_) (fun h => ?_) <;> conv => whnf) | (refine br (fun h => ?_) (fun h => ?_) <;> conv => whnf) | (refine ret_now hE ?_; conv => whnf) | (intro hlen; conv => whnf) | (refine seg_here ?_; conv => whnf) | (refine both ?_ ?_ <;> conv => whnf))
          refine up_nl 0 rfl (next_drop [0, 3, 5] [1, 2] (k + n, out ++ [elN m G]) ⟨by omega, by rw [hL]; omega, by rw [List.append_assoc]; exact hI⟩ (show l.length - (k + n) < l.length - k by omega) ?_)
          conv => whnf
          simp only [htk, killL_app, kill_nds, nlL_append, nl_nodes, hB, hnt, hdn, hA, hL]
          rfl
    · conv => whnf
      repeat' (first | (refine brd_t (by first | assumption | omega) ?_; conv => whnf) | (refine brd_f (by first | assumption | omega) ?_; conv => whnf) | (refine ask (by first | assumption | omega) ?_; conv => whnf) | (refine fit64 (by omega) ?_; conv => whnf) | (refine fit (by simp only [kmin, kmax]; omega) ?_; conv => whnf) | (refine br_t (by assumption) ?_; conv => whnf) | (refine br_f (by assumption) ?_; conv => whnf) | (refine get_of (by assumption) ?_; conv => whnf) | (refine get_map (by assumption) ?_; conv => whnf) | (refine ret_up (up_frzK 0 4 [] rfl (nodesL_nr _) rfl ?_ rfl (up_here ?_)); (exact hon.symm)) | (refine draw_lex hE ?_ ?_; decide +kernel; conv => whnf) | (refine draw_any hE [⟨0, [(0, none), (1, none), (2, none), (3, none), (4, none), (5, none), (6, none)], none, [], [[]]⟩] ?_ ?_; decide +kernel; conv => whnf) | (refine draw_any hE [⟨1, [(0, none), (1, none), (2, none), (3, none), (4, none), (5, none), (6, none), (7, some 0)], some 8, [], [[]]⟩] ?_ ?_; decide +kernel; conv => whnf) | (refine draw_any hE [⟨1, [(0, none), (1, none), (2, none), (3, none), (4, none), (5, none), (6, none), (7, none), (8, none), (9, some 0)], some 10, [], [[]]⟩, ⟨0, [(11, none)], none, [], [[]]⟩] ?_ ?_; decide +kernel; conv => whnf) | (refine brd (fun h => ?_) (fun h => ?_) <;> conv => whnf) | (refine br (fun h => ?_) (fun h => ?_) <;> conv => whnf) | (refine ret_now hE ?_; conv => whnf) | (intro hlen; conv => whnf) | (refine seg_here ?_; conv => whnf) | (refine both ?_ ?_ <;> conv => whnf))
      refine ⟨rfl, ?_⟩
      rw [← hI, List.drop_eq_nil_of_le (by omega)]
      simp [prs, treeT, goT]
end Go.Proofs.YtkkcmobnhiiacaaDoor

/-! The document's MarksNest: levels of what is open. No conditions. -/
namespace Go.Proofs.YtkkcmobnhiiacaaDoor
open Go.RowKit

/-- The slots that matter at the call of add; behind it. -/
def uS (R : List V) (L k : Int) (n0 : Nat) (M : List V) (t : Bs) (o : Int) : List (Nat × V) := [(8, .ptr 0 0 0), (12, .ptr 6 0 0), (24, .lst R), (25, .int .i64 L), (26, .int .i64 k), (55, addV), (56, .sl 1 0 n0), (58, .lst M), (60, .str t), (61, .int .i64 o)]
def uS2 (R : List V) (L k : Int) (M : List V) (t : Bs) (o : Int) : List (Nat × V) := [(8, .ptr 0 0 0), (12, .ptr 6 0 0), (24, .lst R), (25, .int .i64 L), (26, .int .i64 k), (55, addV), (56, .any), (58, .lst M), (60, .str t), (61, .int .i64 o)]
theorem frz_ne (id p len : Nat) (els : List V) (c : List Nd) {n : Bs} (h : p ≠ id) : frzL id els (nodesL c ++ [opn n p len]) = nodesL c ++ [opn n p len] := by
  rw [frzL_app, frz_nrL _ _ (nodesL_nr c)]
  simp [frzL, opn, V.frz, h]
theorem frz_hit {p : Nat} {e c : List Nd} {n : Bs} : frzL p (nodesL e) (nodesL c ++ [opn n p e.length]) = nodesL (c ++ [elN n e]) := by
  rw [frzL_app, frz_nrL _ _ (nodesL_nr c), nodesL_append]
  simp [frzL, opn, V.frz, nodesL, elN, nodeA_mk, nodesL_length]
  exact List.take_of_length_le (by rw [nodesL_length]; exact Nat.le_refl _)
theorem rnO_varI {k : Nat} (h : 0 < k) : rnO k (fun j => j) (.row 1 [addV]) (.row 1 [addV]) := ⟨_, rfl, by simp [rnL, rnV, addV, h]⟩
theorem rnO_opnI {k : Nat} {n : List UInt8} {p len : Nat} (h : p < k) : rnO k (fun j => j) (.row 4 [opn n p len]) (.row 4 [opn n p len]) := ⟨_, rfl, by simp [opn, rnV, rnL, h]⟩
def allObI : Nat → List Ob → (Nat → Ob → Prop) → Prop := allOb
/-- A call whose objects lie where the callee's do, objects by objects. -/
theorem call_at {C : Ctx} {P : Program} {f : FuncId} {xs : List V} {objs0 objs1 : List Ob} {R0 : V} {fop : Operand} {args : List Operand} {K : V → ES → Prop} {σ : ES} (h : HFn P f xs objs0 [0] (fun r o => r = R0 ∧ o = objs1)) (hC : C.P = P) (hb : hasBody P f = true)
    (he : evalC σ fop args = some (f, xs)) (hxs : rnL objs0.length (fun j => j) xs xs) (hobj : allOb 0 objs0 fun j o => σ.heap[j]? = some (some o) ∧ rnO objs0.length (fun j => j) o o)
    (M : List Nat) (hM : ∀ j, j < objs0.length → j ∉ M → j ∈ [0]) (hMi : ∀ j ∈ M, j < objs0.length) (hR : rnV objs0.length (fun j => j) R0 R0) (hob : allOb2 objs1 objs1 (rnO objs0.length (fun j => j))) (hl : objs1.length = objs0.length)
    (hK : K R0 ⟨σ.n, killUM M σ.u, setObs (fun j => j) objs1 0 (killHM M σ.heap)⟩) : CallN C fop args f xs K σ := by
  refine call_id h hC hb he hxs (fun j o ho => ?_) M hM hMi hR (fun j o ho => (allOb2_get hob).2 j o o ho ho) hl hK
  have := allOb_get hobj j o ho
  rwa [Nat.zero_add] at this
end Go.Proofs.YtkkcmobnhiiacaaDoor

/-! The document's MarksNest: levels that are closed. No conditions. -/
namespace Go.Proofs.YtkkcmobnhiiacaaDoor
open Go.RowKit

theorem z1 {C : Ctx} {K : ES → Prop} (c0 : List Nd) (c1 : List Nd) (a0 : Bs) (e0 : Nat) (he : e0 = c1.length) (R : List V) (L k : Int) (n0 : Nat) (M : List V) (t : Bs) (o : Int) (XS : Bs) (XM : List V) (hk : UpE C K ⟨67, (uS R L k n0 M t o), [some (.row 1 [addV]), some (.row 4 (nodesL (c0 ++ [elN a0 c1]))), some (.row 4 []), some (.row 4 []), some (.row 4 []), some (.row 4 []), some (.row 2 [.agg [.str XS, .lst XM]])]⟩) : UpE C K ⟨67, (uS R L k n0 M t o), [some (.row 1 [addV]), some (.row 4 (nodesL c0 ++ [opn a0 2 e0])), some (.row 4 (nodesL c1)), some (.row 4 []), some (.row 4 []), some (.row 4 []), some (.row 2 [.agg [.str XS, .lst XM]])]⟩ := by
  subst he
  refine up_freeze 2 (z := 4) (els := nodesL c1) rfl (nodesL_nr _) (up_new 4 ?_)
  refine up_eq hk (Eq.trans (b := (⟨67, (uS R L k n0 M t o), [some (.row 1 [addV]), some (.row 4 (frzL 2 (nodesL c1) (nodesL c0 ++ [opn a0 2 c1.length]))), some (.row 4 []), some (.row 4 []), some (.row 4 []), some (.row 4 []), some (.row 2 [.agg [.str XS, .lst XM]])]⟩ : ES)) ?_ ?_)
  · kernel_rfl
  · rw [frz_hit]
theorem z2 {C : Ctx} {K : ES → Prop} (c0 : List Nd) (c1 : List Nd) (c2 : List Nd) (a0 : Bs) (a1 : Bs) (e0 : Nat) (e1 : Nat) (he : e1 = c2.length) (R : List V) (L k : Int) (n0 : Nat) (M : List V) (t : Bs) (o : Int) (XS : Bs) (XM : List V) (hk : UpE C K ⟨67, (uS R L k n0 M t o), [some (.row 1 [addV]), some (.row 4 (nodesL c0 ++ [opn a0 2 e0])), some (.row 4 (nodesL (c1 ++ [elN a1 c2]))), some (.row 4 []), some (.row 4 []), some (.row 4 []), some (.row 2 [.agg [.str XS, .lst XM]])]⟩) : UpE C K ⟨67, (uS R L k n0 M t o), [some (.row 1 [addV]), some (.row 4 (nodesL c0 ++ [opn a0 2 e0])), some (.row 4 (nodesL c1 ++ [opn a1 3 e1])), some (.row 4 (nodesL c2)), some (.row 4 []), some (.row 4 []), some (.row 2 [.agg [.str XS, .lst XM]])]⟩ := by
  subst he
  refine up_freeze 3 (z := 4) (els := nodesL c2) rfl (nodesL_nr _) (up_new 4 ?_)
  refine up_eq hk (Eq.trans (b := (⟨67, (uS R L k n0 M t o), [some (.row 1 [addV]), some (.row 4 (frzL 3 (nodesL c2) (nodesL c0 ++ [opn a0 2 e0]))), some (.row 4 (frzL 3 (nodesL c2) (nodesL c1 ++ [opn a1 3 c2.length]))), some (.row 4 []), some (.row 4 []), some (.row 4 []), some (.row 2 [.agg [.str XS, .lst XM]])]⟩ : ES)) ?_ ?_)
  · kernel_rfl
  · rw [frz_ne _ _ _ _ _ (of_decide_eq_true rfl), frz_hit]
theorem z3 {C : Ctx} {K : ES → Prop} (c0 : List Nd) (c1 : List Nd) (c2 : List Nd) (c3 : List Nd) (a0 : Bs) (a1 : Bs) (a2 : Bs) (e0 : Nat) (e1 : Nat) (e2 : Nat) (he : e2 = c3.length) (R : List V) (L k : Int) (n0 : Nat) (M : List V) (t : Bs) (o : Int) (XS : Bs) (XM : List V) (hk : UpE C K ⟨67, (uS R L k n0 M t o), [some (.row 1 [addV]), some (.row 4 (nodesL c0 ++ [opn a0 2 e0])), some (.row 4 (nodesL c1 ++ [opn a1 3 e1])), some (.row 4 (nodesL (c2 ++ [elN a2 c3]))), some (.row 4 []), some (.row 4 []), some (.row 2 [.agg [.str XS, .lst XM]])]⟩) : UpE C K ⟨67, (uS R L k n0 M t o), [some (.row 1 [addV]), some (.row 4 (nodesL c0 ++ [opn a0 2 e0])), some (.row 4 (nodesL c1 ++ [opn a1 3 e1])), some (.row 4 (nodesL c2 ++ [opn a2 4 e2])), some (.row 4 (nodesL c3)), some (.row 4 []), some (.row 2 [.agg [.str XS, .lst XM]])]⟩ := by
  subst he
  refine up_freeze 4 (z := 4) (els := nodesL c3) rfl (nodesL_nr _) (up_new 4 ?_)
  refine up_eq hk (Eq.trans (b := (⟨67, (uS R L k n0 M t o), [some (.row 1 [addV]), some (.row 4 (frzL 4 (nodesL c3) (nodesL c0 ++ [opn a0 2 e0]))), some (.row 4 (frzL 4 (nodesL c3) (nodesL c1 ++ [opn a1 3 e1]))), some (.row 4 (frzL 4 (nodesL c3) (nodesL c2 ++ [opn a2 4 c3.length]))), some (.row 4 []), some (.row 4 []), some (.row 2 [.agg [.str XS, .lst XM]])]⟩ : ES)) ?_ ?_)
  · kernel_rfl
  · rw [frz_ne _ _ _ _ _ (of_decide_eq_true rfl), frz_ne _ _ _ _ _ (of_decide_eq_true rfl), frz_hit]
theorem z4 {C : Ctx} {K : ES → Prop} (c0 : List Nd) (c1 : List Nd) (c2 : List Nd) (c3 : List Nd) (c4 : List Nd) (a0 : Bs) (a1 : Bs) (a2 : Bs) (a3 : Bs) (e0 : Nat) (e1 : Nat) (e2 : Nat) (e3 : Nat) (he : e3 = c4.length) (R : List V) (L k : Int) (n0 : Nat) (M : List V) (t : Bs) (o : Int) (XS : Bs) (XM : List V) (hk : UpE C K ⟨67, (uS R L k n0 M t o), [some (.row 1 [addV]), some (.row 4 (nodesL c0 ++ [opn a0 2 e0])), some (.row 4 (nodesL c1 ++ [opn a1 3 e1])), some (.row 4 (nodesL c2 ++ [opn a2 4 e2])), some (.row 4 (nodesL (c3 ++ [elN a3 c4]))), some (.row 4 []), some (.row 2 [.agg [.str XS, .lst XM]])]⟩) : UpE C K ⟨67, (uS R L k n0 M t o), [some (.row 1 [addV]), some (.row 4 (nodesL c0 ++ [opn a0 2 e0])), some (.row 4 (nodesL c1 ++ [opn a1 3 e1])), some (.row 4 (nodesL c2 ++ [opn a2 4 e2])), some (.row 4 (nodesL c3 ++ [opn a3 5 e3])), some (.row 4 (nodesL c4)), some (.row 2 [.agg [.str XS, .lst XM]])]⟩ := by
  subst he
  refine up_freeze 5 (z := 4) (els := nodesL c4) rfl (nodesL_nr _) (up_new 4 ?_)
  refine up_eq hk (Eq.trans (b := (⟨67, (uS R L k n0 M t o), [some (.row 1 [addV]), some (.row 4 (frzL 5 (nodesL c4) (nodesL c0 ++ [opn a0 2 e0]))), some (.row 4 (frzL 5 (nodesL c4) (nodesL c1 ++ [opn a1 3 e1]))), some (.row 4 (frzL 5 (nodesL c4) (nodesL c2 ++ [opn a2 4 e2]))), some (.row 4 (frzL 5 (nodesL c4) (nodesL c3 ++ [opn a3 5 c4.length]))), some (.row 4 []), some (.row 2 [.agg [.str XS, .lst XM]])]⟩ : ES)) ?_ ?_)
  · kernel_rfl
  · rw [frz_ne _ _ _ _ _ (of_decide_eq_true rfl), frz_ne _ _ _ _ _ (of_decide_eq_true rfl), frz_ne _ _ _ _ _ (of_decide_eq_true rfl), frz_hit]
end Go.Proofs.YtkkcmobnhiiacaaDoor

/-! The document's MarksNest: its call of add. No conditions. -/
namespace Go.Proofs.YtkkcmobnhiiacaaDoor
open Go.RowKit

theorem call_00 {C : Ctx} (hC : C.P = Tryd.prog) {K : V → ES → Prop} (t : Bs) (c0 : List Nd) (h0 : c0.length ≤ 1048576) (R : List V) (L k : Int) (XS : Bs) (XM : List V)
    (hK : K (.sl 1 0 (c0.length + 1)) ⟨67, uS2 R L k [] t 0, [some (.row 1 [addV]), some (.row 4 (nodesL c0 ++ [txC t])), some (.row 4 []), some (.row 4 []), some (.row 4 []), some (.row 4 []), some (.row 2 [.agg [.str XS, .lst XM]])]⟩) :
    CallN C (.tmp 55) [.tmp 56, .tmp 58, .const (.bool true), .tmp 60, .tmp 61] 21 ([.sl 1 0 c0.length, .lst [], .bool true, .str t, .int .i64 0] ++ [.ptr 0 0 0]) K ⟨67, uS R L k c0.length [] t 0, [some (.row 1 [addV]), some (.row 4 (nodesL c0)), some (.row 4 []), some (.row 4 []), some (.row 4 []), some (.row 4 []), some (.row 2 [.agg [.str XS, .lst XM]])]⟩ := by
  have h1 := h_a00 t c0 h0
  refine call_at h1 hC hasBody_21 rfl ?_ ⟨⟨rfl, rnO_varI (of_decide_eq_true rfl)⟩, ⟨rfl, rnO_nd _⟩, trivial⟩ [1] (fun j h1 h2 => ?_) (fun j hj => ?_) ?_ ⟨rnO_varI (of_decide_eq_true rfl), rnO_lv _ (rnV_nr _ ⟨trivial, trivial, trivial, trivial, trivial⟩), trivial⟩ rfl ?_
  · simp [rnL, rnV]
  · simp at h1 h2 ⊢; omega
  · simp at hj ⊢; omega
  · simp [rnV]
  · refine (congrArg (K _) ?_).mpr hK
    kernel_rfl
theorem call_01 {C : Ctx} (hC : C.P = Tryd.prog) {K : V → ES → Prop} (s1 t : Bs) (c0 : List Nd) (h0 : c0.length ≤ 1048576) (R : List V) (L k : Int) (XS : Bs) (XM : List V)
    (hK : K (.sl 1 0 (c0.length + 1)) ⟨67, uS2 R L k [.str s1] t 0, [some (.row 1 [addV]), some (.row 4 (nodesL c0 ++ [opn s1 2 1])), some (.row 4 ([txC t])), some (.row 4 []), some (.row 4 []), some (.row 4 []), some (.row 2 [.agg [.str XS, .lst XM]])]⟩) :
    CallN C (.tmp 55) [.tmp 56, .tmp 58, .const (.bool true), .tmp 60, .tmp 61] 21 ([.sl 1 0 c0.length, .lst [.str s1], .bool true, .str t, .int .i64 0] ++ [.ptr 0 0 0]) K ⟨67, uS R L k c0.length [.str s1] t 0, [some (.row 1 [addV]), some (.row 4 (nodesL c0)), some (.row 4 []), some (.row 4 []), some (.row 4 []), some (.row 4 []), some (.row 2 [.agg [.str XS, .lst XM]])]⟩ := by
  have h1 := h_a01 s1 t c0 h0
  refine call_at h1 hC hasBody_21 rfl ?_ ⟨⟨rfl, rnO_varI (of_decide_eq_true rfl)⟩, ⟨rfl, rnO_nd _⟩, ⟨rfl, rnO_nil⟩, trivial⟩ [1, 2] (fun j h1 h2 => ?_) (fun j hj => ?_) ?_ ⟨rnO_varI (of_decide_eq_true rfl), rnO_lv _ (rn_opn (ρ := fun j => j) (of_decide_eq_true rfl)), rnO_txt t, trivial⟩ rfl ?_
  · simp [rnL, rnV]
  · simp at h1 h2 ⊢; omega
  · simp at hj ⊢; omega
  · simp [rnV]
  · refine (congrArg (K _) ?_).mpr hK
    kernel_rfl
theorem call_02 {C : Ctx} (hC : C.P = Tryd.prog) {K : V → ES → Prop} (s1 s2 t : Bs) (c0 : List Nd) (h0 : c0.length ≤ 1048576) (R : List V) (L k : Int) (XS : Bs) (XM : List V)
    (hK : K (.sl 1 0 (c0.length + 1)) ⟨67, uS2 R L k [.str s1, .str s2] t 0, [some (.row 1 [addV]), some (.row 4 (nodesL c0 ++ [opn s1 2 1])), some (.row 4 ([opn s2 3 1])), some (.row 4 ([txC t])), some (.row 4 []), some (.row 4 []), some (.row 2 [.agg [.str XS, .lst XM]])]⟩) :
    CallN C (.tmp 55) [.tmp 56, .tmp 58, .const (.bool true), .tmp 60, .tmp 61] 21 ([.sl 1 0 c0.length, .lst [.str s1, .str s2], .bool true, .str t, .int .i64 0] ++ [.ptr 0 0 0]) K ⟨67, uS R L k c0.length [.str s1, .str s2] t 0, [some (.row 1 [addV]), some (.row 4 (nodesL c0)), some (.row 4 []), some (.row 4 []), some (.row 4 []), some (.row 4 []), some (.row 2 [.agg [.str XS, .lst XM]])]⟩ := by
  have h1 := h_a02 s1 s2 t c0 h0
  refine call_at h1 hC hasBody_21 rfl ?_ ⟨⟨rfl, rnO_varI (of_decide_eq_true rfl)⟩, ⟨rfl, rnO_nd _⟩, ⟨rfl, rnO_nil⟩, ⟨rfl, rnO_nil⟩, trivial⟩ [1, 2, 3] (fun j h1 h2 => ?_) (fun j hj => ?_) ?_ ⟨rnO_varI (of_decide_eq_true rfl), rnO_lv _ (rn_opn (ρ := fun j => j) (of_decide_eq_true rfl)), rnO_opnI (of_decide_eq_true rfl), rnO_txt t, trivial⟩ rfl ?_
  · simp [rnL, rnV]
  · simp at h1 h2 ⊢; omega
  · simp at hj ⊢; omega
  · simp [rnV]
  · refine (congrArg (K _) ?_).mpr hK
    kernel_rfl
theorem call_03 {C : Ctx} (hC : C.P = Tryd.prog) {K : V → ES → Prop} (s1 s2 s3 t : Bs) (c0 : List Nd) (h0 : c0.length ≤ 1048576) (R : List V) (L k : Int) (XS : Bs) (XM : List V)
    (hK : K (.sl 1 0 (c0.length + 1)) ⟨67, uS2 R L k [.str s1, .str s2, .str s3] t 0, [some (.row 1 [addV]), some (.row 4 (nodesL c0 ++ [opn s1 2 1])), some (.row 4 ([opn s2 3 1])), some (.row 4 ([opn s3 4 1])), some (.row 4 ([txC t])), some (.row 4 []), some (.row 2 [.agg [.str XS, .lst XM]])]⟩) :
    CallN C (.tmp 55) [.tmp 56, .tmp 58, .const (.bool true), .tmp 60, .tmp 61] 21 ([.sl 1 0 c0.length, .lst [.str s1, .str s2, .str s3], .bool true, .str t, .int .i64 0] ++ [.ptr 0 0 0]) K ⟨67, uS R L k c0.length [.str s1, .str s2, .str s3] t 0, [some (.row 1 [addV]), some (.row 4 (nodesL c0)), some (.row 4 []), some (.row 4 []), some (.row 4 []), some (.row 4 []), some (.row 2 [.agg [.str XS, .lst XM]])]⟩ := by
  have h1 := h_a03 s1 s2 s3 t c0 h0
  refine call_at h1 hC hasBody_21 rfl ?_ ⟨⟨rfl, rnO_varI (of_decide_eq_true rfl)⟩, ⟨rfl, rnO_nd _⟩, ⟨rfl, rnO_nil⟩, ⟨rfl, rnO_nil⟩, ⟨rfl, rnO_nil⟩, trivial⟩ [1, 2, 3, 4] (fun j h1 h2 => ?_) (fun j hj => ?_) ?_ ⟨rnO_varI (of_decide_eq_true rfl), rnO_lv _ (rn_opn (ρ := fun j => j) (of_decide_eq_true rfl)), rnO_opnI (of_decide_eq_true rfl), rnO_opnI (of_decide_eq_true rfl), rnO_txt t, trivial⟩ rfl ?_
  · simp [rnL, rnV]
  · simp at h1 h2 ⊢; omega
  · simp at hj ⊢; omega
  · simp [rnV]
  · refine (congrArg (K _) ?_).mpr hK
    kernel_rfl
theorem call_04 {C : Ctx} (hC : C.P = Tryd.prog) {K : V → ES → Prop} (s1 s2 s3 s4 t : Bs) (c0 : List Nd) (h0 : c0.length ≤ 1048576) (R : List V) (L k : Int) (XS : Bs) (XM : List V)
    (hK : K (.sl 1 0 (c0.length + 1)) ⟨67, uS2 R L k [.str s1, .str s2, .str s3, .str s4] t 0, [some (.row 1 [addV]), some (.row 4 (nodesL c0 ++ [opn s1 2 1])), some (.row 4 ([opn s2 3 1])), some (.row 4 ([opn s3 4 1])), some (.row 4 ([opn s4 5 1])), some (.row 4 ([txC t])), some (.row 2 [.agg [.str XS, .lst XM]])]⟩) :
    CallN C (.tmp 55) [.tmp 56, .tmp 58, .const (.bool true), .tmp 60, .tmp 61] 21 ([.sl 1 0 c0.length, .lst [.str s1, .str s2, .str s3, .str s4], .bool true, .str t, .int .i64 0] ++ [.ptr 0 0 0]) K ⟨67, uS R L k c0.length [.str s1, .str s2, .str s3, .str s4] t 0, [some (.row 1 [addV]), some (.row 4 (nodesL c0)), some (.row 4 []), some (.row 4 []), some (.row 4 []), some (.row 4 []), some (.row 2 [.agg [.str XS, .lst XM]])]⟩ := by
  have h1 := h_a04 s1 s2 s3 s4 t c0 h0
  refine call_at h1 hC hasBody_21 rfl ?_ ⟨⟨rfl, rnO_varI (of_decide_eq_true rfl)⟩, ⟨rfl, rnO_nd _⟩, ⟨rfl, rnO_nil⟩, ⟨rfl, rnO_nil⟩, ⟨rfl, rnO_nil⟩, ⟨rfl, rnO_nil⟩, trivial⟩ [1, 2, 3, 4, 5] (fun j h1 h2 => ?_) (fun j hj => ?_) ?_ ⟨rnO_varI (of_decide_eq_true rfl), rnO_lv _ (rn_opn (ρ := fun j => j) (of_decide_eq_true rfl)), rnO_opnI (of_decide_eq_true rfl), rnO_opnI (of_decide_eq_true rfl), rnO_opnI (of_decide_eq_true rfl), rnO_txt t, trivial⟩ rfl ?_
  · simp [rnL, rnV]
  · simp at h1 h2 ⊢; omega
  · simp at hj ⊢; omega
  · simp [rnV]
  · refine (congrArg (K _) ?_).mpr hK
    kernel_rfl
theorem call_10 {C : Ctx} (hC : C.P = Tryd.prog) {K : V → ES → Prop} (u1 t : Bs) (c0 c1 : List Nd) (h0 : c0.length ≤ 1048576) (h1 : c1.length ≤ 1048576) (R : List V) (L k : Int) (XS : Bs) (XM : List V)
    (hK : K (.sl 1 0 (c0.length + 1)) ⟨67, uS2 R L k [.str u1] t 1, [some (.row 1 [addV]), some (.row 4 (nodesL c0 ++ [opn u1 2 (c1.length + 1)])), some (.row 4 (nodesL c1 ++ [txC t])), some (.row 4 []), some (.row 4 []), some (.row 4 []), some (.row 2 [.agg [.str XS, .lst XM]])]⟩) :
    CallN C (.tmp 55) [.tmp 56, .tmp 58, .const (.bool true), .tmp 60, .tmp 61] 21 ([.sl 1 0 (c0.length + 1), .lst [.str u1], .bool true, .str t, .int .i64 1] ++ [.ptr 0 0 0]) K ⟨67, uS R L k (c0.length + 1) [.str u1] t 1, [some (.row 1 [addV]), some (.row 4 (nodesL c0 ++ [opn u1 2 c1.length])), some (.row 4 (nodesL c1)), some (.row 4 []), some (.row 4 []), some (.row 4 []), some (.row 2 [.agg [.str XS, .lst XM]])]⟩ := by
  have h1 := h_a10 u1 u1 t c0 c1 h0 h1
  refine call_at h1 hC hasBody_21 rfl ?_ ⟨⟨rfl, rnO_varI (of_decide_eq_true rfl)⟩, ⟨rfl, rnO_lv _ (rn_opn (ρ := fun j => j) (of_decide_eq_true rfl))⟩, ⟨rfl, rnO_nd _⟩, trivial⟩ [1, 2] (fun j h1 h2 => ?_) (fun j hj => ?_) ?_ ⟨rnO_varI (of_decide_eq_true rfl), rnO_lv _ (rn_opn (ρ := fun j => j) (of_decide_eq_true rfl)), rnO_lv _ (rnV_nr _ ⟨trivial, trivial, trivial, trivial, trivial⟩), trivial⟩ rfl ?_
  · simp [rnL, rnV]
  · simp at h1 h2 ⊢; omega
  · simp at hj ⊢; omega
  · simp [rnV]
  · refine (congrArg (K _) ?_).mpr hK
    kernel_rfl
theorem call_11 {C : Ctx} (hC : C.P = Tryd.prog) {K : V → ES → Prop} (u1 s1 t : Bs) (c0 c1 : List Nd) (h0 : c0.length ≤ 1048576) (h1 : c1.length ≤ 1048576) (R : List V) (L k : Int) (XS : Bs) (XM : List V)
    (hK : K (.sl 1 0 (c0.length + 1)) ⟨67, uS2 R L k [.str u1, .str s1] t 1, [some (.row 1 [addV]), some (.row 4 (nodesL c0 ++ [opn u1 2 (c1.length + 1)])), some (.row 4 (nodesL c1 ++ [opn s1 3 1])), some (.row 4 ([txC t])), some (.row 4 []), some (.row 4 []), some (.row 2 [.agg [.str XS, .lst XM]])]⟩) :
    CallN C (.tmp 55) [.tmp 56, .tmp 58, .const (.bool true), .tmp 60, .tmp 61] 21 ([.sl 1 0 (c0.length + 1), .lst [.str u1, .str s1], .bool true, .str t, .int .i64 1] ++ [.ptr 0 0 0]) K ⟨67, uS R L k (c0.length + 1) [.str u1, .str s1] t 1, [some (.row 1 [addV]), some (.row 4 (nodesL c0 ++ [opn u1 2 c1.length])), some (.row 4 (nodesL c1)), some (.row 4 []), some (.row 4 []), some (.row 4 []), some (.row 2 [.agg [.str XS, .lst XM]])]⟩ := by
  have h1 := h_a11 u1 u1 s1 t c0 c1 h0 h1
  refine call_at h1 hC hasBody_21 rfl ?_ ⟨⟨rfl, rnO_varI (of_decide_eq_true rfl)⟩, ⟨rfl, rnO_lv _ (rn_opn (ρ := fun j => j) (of_decide_eq_true rfl))⟩, ⟨rfl, rnO_nd _⟩, ⟨rfl, rnO_nil⟩, trivial⟩ [1, 2, 3] (fun j h1 h2 => ?_) (fun j hj => ?_) ?_ ⟨rnO_varI (of_decide_eq_true rfl), rnO_lv _ (rn_opn (ρ := fun j => j) (of_decide_eq_true rfl)), rnO_lv _ (rn_opn (ρ := fun j => j) (of_decide_eq_true rfl)), rnO_txt t, trivial⟩ rfl ?_
  · simp [rnL, rnV]
  · simp at h1 h2 ⊢; omega
  · simp at hj ⊢; omega
  · simp [rnV]
  · refine (congrArg (K _) ?_).mpr hK
    kernel_rfl
theorem call_12 {C : Ctx} (hC : C.P = Tryd.prog) {K : V → ES → Prop} (u1 s1 s2 t : Bs) (c0 c1 : List Nd) (h0 : c0.length ≤ 1048576) (h1 : c1.length ≤ 1048576) (R : List V) (L k : Int) (XS : Bs) (XM : List V)
    (hK : K (.sl 1 0 (c0.length + 1)) ⟨67, uS2 R L k [.str u1, .str s1, .str s2] t 1, [some (.row 1 [addV]), some (.row 4 (nodesL c0 ++ [opn u1 2 (c1.length + 1)])), some (.row 4 (nodesL c1 ++ [opn s1 3 1])), some (.row 4 ([opn s2 4 1])), some (.row 4 ([txC t])), some (.row 4 []), some (.row 2 [.agg [.str XS, .lst XM]])]⟩) :
    CallN C (.tmp 55) [.tmp 56, .tmp 58, .const (.bool true), .tmp 60, .tmp 61] 21 ([.sl 1 0 (c0.length + 1), .lst [.str u1, .str s1, .str s2], .bool true, .str t, .int .i64 1] ++ [.ptr 0 0 0]) K ⟨67, uS R L k (c0.length + 1) [.str u1, .str s1, .str s2] t 1, [some (.row 1 [addV]), some (.row 4 (nodesL c0 ++ [opn u1 2 c1.length])), some (.row 4 (nodesL c1)), some (.row 4 []), some (.row 4 []), some (.row 4 []), some (.row 2 [.agg [.str XS, .lst XM]])]⟩ := by
  have h1 := h_a12 u1 u1 s1 s2 t c0 c1 h0 h1
  refine call_at h1 hC hasBody_21 rfl ?_ ⟨⟨rfl, rnO_varI (of_decide_eq_true rfl)⟩, ⟨rfl, rnO_lv _ (rn_opn (ρ := fun j => j) (of_decide_eq_true rfl))⟩, ⟨rfl, rnO_nd _⟩, ⟨rfl, rnO_nil⟩, ⟨rfl, rnO_nil⟩, trivial⟩ [1, 2, 3, 4] (fun j h1 h2 => ?_) (fun j hj => ?_) ?_ ⟨rnO_varI (of_decide_eq_true rfl), rnO_lv _ (rn_opn (ρ := fun j => j) (of_decide_eq_true rfl)), rnO_lv _ (rn_opn (ρ := fun j => j) (of_decide_eq_true rfl)), rnO_opnI (of_decide_eq_true rfl), rnO_txt t, trivial⟩ rfl ?_
  · simp [rnL, rnV]
  · simp at h1 h2 ⊢; omega
  · simp at hj ⊢; omega
  · simp [rnV]
  · refine (congrArg (K _) ?_).mpr hK
    kernel_rfl
theorem call_13 {C : Ctx} (hC : C.P = Tryd.prog) {K : V → ES → Prop} (u1 s1 s2 s3 t : Bs) (c0 c1 : List Nd) (h0 : c0.length ≤ 1048576) (h1 : c1.length ≤ 1048576) (R : List V) (L k : Int) (XS : Bs) (XM : List V)
    (hK : K (.sl 1 0 (c0.length + 1)) ⟨67, uS2 R L k [.str u1, .str s1, .str s2, .str s3] t 1, [some (.row 1 [addV]), some (.row 4 (nodesL c0 ++ [opn u1 2 (c1.length + 1)])), some (.row 4 (nodesL c1 ++ [opn s1 3 1])), some (.row 4 ([opn s2 4 1])), some (.row 4 ([opn s3 5 1])), some (.row 4 ([txC t])), some (.row 2 [.agg [.str XS, .lst XM]])]⟩) :
    CallN C (.tmp 55) [.tmp 56, .tmp 58, .const (.bool true), .tmp 60, .tmp 61] 21 ([.sl 1 0 (c0.length + 1), .lst [.str u1, .str s1, .str s2, .str s3], .bool true, .str t, .int .i64 1] ++ [.ptr 0 0 0]) K ⟨67, uS R L k (c0.length + 1) [.str u1, .str s1, .str s2, .str s3] t 1, [some (.row 1 [addV]), some (.row 4 (nodesL c0 ++ [opn u1 2 c1.length])), some (.row 4 (nodesL c1)), some (.row 4 []), some (.row 4 []), some (.row 4 []), some (.row 2 [.agg [.str XS, .lst XM]])]⟩ := by
  have h1 := h_a13 u1 u1 s1 s2 s3 t c0 c1 h0 h1
  refine call_at h1 hC hasBody_21 rfl ?_ ⟨⟨rfl, rnO_varI (of_decide_eq_true rfl)⟩, ⟨rfl, rnO_lv _ (rn_opn (ρ := fun j => j) (of_decide_eq_true rfl))⟩, ⟨rfl, rnO_nd _⟩, ⟨rfl, rnO_nil⟩, ⟨rfl, rnO_nil⟩, ⟨rfl, rnO_nil⟩, trivial⟩ [1, 2, 3, 4, 5] (fun j h1 h2 => ?_) (fun j hj => ?_) ?_ ⟨rnO_varI (of_decide_eq_true rfl), rnO_lv _ (rn_opn (ρ := fun j => j) (of_decide_eq_true rfl)), rnO_lv _ (rn_opn (ρ := fun j => j) (of_decide_eq_true rfl)), rnO_opnI (of_decide_eq_true rfl), rnO_opnI (of_decide_eq_true rfl), rnO_txt t, trivial⟩ rfl ?_
  · simp [rnL, rnV]
  · simp at h1 h2 ⊢; omega
  · simp at hj ⊢; omega
  · simp [rnV]
  · refine (congrArg (K _) ?_).mpr hK
    kernel_rfl
theorem call_20 {C : Ctx} (hC : C.P = Tryd.prog) {K : V → ES → Prop} (u1 u2 t : Bs) (c0 c1 c2 : List Nd) (h0 : c0.length ≤ 1048576) (h1 : c1.length ≤ 1048576) (h2 : c2.length ≤ 1048576) (R : List V) (L k : Int) (XS : Bs) (XM : List V)
    (hK : K (.sl 1 0 (c0.length + 1)) ⟨67, uS2 R L k [.str u1, .str u2] t 2, [some (.row 1 [addV]), some (.row 4 (nodesL c0 ++ [opn u1 2 (c1.length + 1)])), some (.row 4 (nodesL c1 ++ [opn u2 3 (c2.length + 1)])), some (.row 4 (nodesL c2 ++ [txC t])), some (.row 4 []), some (.row 4 []), some (.row 2 [.agg [.str XS, .lst XM]])]⟩) :
    CallN C (.tmp 55) [.tmp 56, .tmp 58, .const (.bool true), .tmp 60, .tmp 61] 21 ([.sl 1 0 (c0.length + 1), .lst [.str u1, .str u2], .bool true, .str t, .int .i64 2] ++ [.ptr 0 0 0]) K ⟨67, uS R L k (c0.length + 1) [.str u1, .str u2] t 2, [some (.row 1 [addV]), some (.row 4 (nodesL c0 ++ [opn u1 2 (c1.length + 1)])), some (.row 4 (nodesL c1 ++ [opn u2 3 c2.length])), some (.row 4 (nodesL c2)), some (.row 4 []), some (.row 4 []), some (.row 2 [.agg [.str XS, .lst XM]])]⟩ := by
  have h1 := h_a20 u1 u2 u1 u2 t c0 c1 c2 h0 h1 h2
  refine call_at h1 hC hasBody_21 rfl ?_ ⟨⟨rfl, rnO_varI (of_decide_eq_true rfl)⟩, ⟨rfl, rnO_lv _ (rn_opn (ρ := fun j => j) (of_decide_eq_true rfl))⟩, ⟨rfl, rnO_lv _ (rn_opn (ρ := fun j => j) (of_decide_eq_true rfl))⟩, ⟨rfl, rnO_nd _⟩, trivial⟩ [1, 2, 3] (fun j h1 h2 => ?_) (fun j hj => ?_) ?_ ⟨rnO_varI (of_decide_eq_true rfl), rnO_lv _ (rn_opn (ρ := fun j => j) (of_decide_eq_true rfl)), rnO_lv _ (rn_opn (ρ := fun j => j) (of_decide_eq_true rfl)), rnO_lv _ (rnV_nr _ ⟨trivial, trivial, trivial, trivial, trivial⟩), trivial⟩ rfl ?_
  · simp [rnL, rnV]
  · simp at h1 h2 ⊢; omega
  · simp at hj ⊢; omega
  · simp [rnV]
  · refine (congrArg (K _) ?_).mpr hK
    kernel_rfl
theorem call_21 {C : Ctx} (hC : C.P = Tryd.prog) {K : V → ES → Prop} (u1 u2 s1 t : Bs) (c0 c1 c2 : List Nd) (h0 : c0.length ≤ 1048576) (h1 : c1.length ≤ 1048576) (h2 : c2.length ≤ 1048576) (R : List V) (L k : Int) (XS : Bs) (XM : List V)
    (hK : K (.sl 1 0 (c0.length + 1)) ⟨67, uS2 R L k [.str u1, .str u2, .str s1] t 2, [some (.row 1 [addV]), some (.row 4 (nodesL c0 ++ [opn u1 2 (c1.length + 1)])), some (.row 4 (nodesL c1 ++ [opn u2 3 (c2.length + 1)])), some (.row 4 (nodesL c2 ++ [opn s1 4 1])), some (.row 4 ([txC t])), some (.row 4 []), some (.row 2 [.agg [.str XS, .lst XM]])]⟩) :
    CallN C (.tmp 55) [.tmp 56, .tmp 58, .const (.bool true), .tmp 60, .tmp 61] 21 ([.sl 1 0 (c0.length + 1), .lst [.str u1, .str u2, .str s1], .bool true, .str t, .int .i64 2] ++ [.ptr 0 0 0]) K ⟨67, uS R L k (c0.length + 1) [.str u1, .str u2, .str s1] t 2, [some (.row 1 [addV]), some (.row 4 (nodesL c0 ++ [opn u1 2 (c1.length + 1)])), some (.row 4 (nodesL c1 ++ [opn u2 3 c2.length])), some (.row 4 (nodesL c2)), some (.row 4 []), some (.row 4 []), some (.row 2 [.agg [.str XS, .lst XM]])]⟩ := by
  have h1 := h_a21 u1 u2 u1 u2 s1 t c0 c1 c2 h0 h1 h2
  refine call_at h1 hC hasBody_21 rfl ?_ ⟨⟨rfl, rnO_varI (of_decide_eq_true rfl)⟩, ⟨rfl, rnO_lv _ (rn_opn (ρ := fun j => j) (of_decide_eq_true rfl))⟩, ⟨rfl, rnO_lv _ (rn_opn (ρ := fun j => j) (of_decide_eq_true rfl))⟩, ⟨rfl, rnO_nd _⟩, ⟨rfl, rnO_nil⟩, trivial⟩ [1, 2, 3, 4] (fun j h1 h2 => ?_) (fun j hj => ?_) ?_ ⟨rnO_varI (of_decide_eq_true rfl), rnO_lv _ (rn_opn (ρ := fun j => j) (of_decide_eq_true rfl)), rnO_lv _ (rn_opn (ρ := fun j => j) (of_decide_eq_true rfl)), rnO_lv _ (rn_opn (ρ := fun j => j) (of_decide_eq_true rfl)), rnO_txt t, trivial⟩ rfl ?_
  · simp [rnL, rnV]
  · simp at h1 h2 ⊢; omega
  · simp at hj ⊢; omega
  · simp [rnV]
  · refine (congrArg (K _) ?_).mpr hK
    kernel_rfl
theorem call_22 {C : Ctx} (hC : C.P = Tryd.prog) {K : V → ES → Prop} (u1 u2 s1 s2 t : Bs) (c0 c1 c2 : List Nd) (h0 : c0.length ≤ 1048576) (h1 : c1.length ≤ 1048576) (h2 : c2.length ≤ 1048576) (R : List V) (L k : Int) (XS : Bs) (XM : List V)
    (hK : K (.sl 1 0 (c0.length + 1)) ⟨67, uS2 R L k [.str u1, .str u2, .str s1, .str s2] t 2, [some (.row 1 [addV]), some (.row 4 (nodesL c0 ++ [opn u1 2 (c1.length + 1)])), some (.row 4 (nodesL c1 ++ [opn u2 3 (c2.length + 1)])), some (.row 4 (nodesL c2 ++ [opn s1 4 1])), some (.row 4 ([opn s2 5 1])), some (.row 4 ([txC t])), some (.row 2 [.agg [.str XS, .lst XM]])]⟩) :
    CallN C (.tmp 55) [.tmp 56, .tmp 58, .const (.bool true), .tmp 60, .tmp 61] 21 ([.sl 1 0 (c0.length + 1), .lst [.str u1, .str u2, .str s1, .str s2], .bool true, .str t, .int .i64 2] ++ [.ptr 0 0 0]) K ⟨67, uS R L k (c0.length + 1) [.str u1, .str u2, .str s1, .str s2] t 2, [some (.row 1 [addV]), some (.row 4 (nodesL c0 ++ [opn u1 2 (c1.length + 1)])), some (.row 4 (nodesL c1 ++ [opn u2 3 c2.length])), some (.row 4 (nodesL c2)), some (.row 4 []), some (.row 4 []), some (.row 2 [.agg [.str XS, .lst XM]])]⟩ := by
  have h1 := h_a22 u1 u2 u1 u2 s1 s2 t c0 c1 c2 h0 h1 h2
  refine call_at h1 hC hasBody_21 rfl ?_ ⟨⟨rfl, rnO_varI (of_decide_eq_true rfl)⟩, ⟨rfl, rnO_lv _ (rn_opn (ρ := fun j => j) (of_decide_eq_true rfl))⟩, ⟨rfl, rnO_lv _ (rn_opn (ρ := fun j => j) (of_decide_eq_true rfl))⟩, ⟨rfl, rnO_nd _⟩, ⟨rfl, rnO_nil⟩, ⟨rfl, rnO_nil⟩, trivial⟩ [1, 2, 3, 4, 5] (fun j h1 h2 => ?_) (fun j hj => ?_) ?_ ⟨rnO_varI (of_decide_eq_true rfl), rnO_lv _ (rn_opn (ρ := fun j => j) (of_decide_eq_true rfl)), rnO_lv _ (rn_opn (ρ := fun j => j) (of_decide_eq_true rfl)), rnO_lv _ (rn_opn (ρ := fun j => j) (of_decide_eq_true rfl)), rnO_opnI (of_decide_eq_true rfl), rnO_txt t, trivial⟩ rfl ?_
  · simp [rnL, rnV]
  · simp at h1 h2 ⊢; omega
  · simp at hj ⊢; omega
  · simp [rnV]
  · refine (congrArg (K _) ?_).mpr hK
    kernel_rfl
theorem call_30 {C : Ctx} (hC : C.P = Tryd.prog) {K : V → ES → Prop} (u1 u2 u3 t : Bs) (c0 c1 c2 c3 : List Nd) (h0 : c0.length ≤ 1048576) (h1 : c1.length ≤ 1048576) (h2 : c2.length ≤ 1048576) (h3 : c3.length ≤ 1048576) (R : List V) (L k : Int) (XS : Bs) (XM : List V)
    (hK : K (.sl 1 0 (c0.length + 1)) ⟨67, uS2 R L k [.str u1, .str u2, .str u3] t 3, [some (.row 1 [addV]), some (.row 4 (nodesL c0 ++ [opn u1 2 (c1.length + 1)])), some (.row 4 (nodesL c1 ++ [opn u2 3 (c2.length + 1)])), some (.row 4 (nodesL c2 ++ [opn u3 4 (c3.length + 1)])), some (.row 4 (nodesL c3 ++ [txC t])), some (.row 4 []), some (.row 2 [.agg [.str XS, .lst XM]])]⟩) :
    CallN C (.tmp 55) [.tmp 56, .tmp 58, .const (.bool true), .tmp 60, .tmp 61] 21 ([.sl 1 0 (c0.length + 1), .lst [.str u1, .str u2, .str u3], .bool true, .str t, .int .i64 3] ++ [.ptr 0 0 0]) K ⟨67, uS R L k (c0.length + 1) [.str u1, .str u2, .str u3] t 3, [some (.row 1 [addV]), some (.row 4 (nodesL c0 ++ [opn u1 2 (c1.length + 1)])), some (.row 4 (nodesL c1 ++ [opn u2 3 (c2.length + 1)])), some (.row 4 (nodesL c2 ++ [opn u3 4 c3.length])), some (.row 4 (nodesL c3)), some (.row 4 []), some (.row 2 [.agg [.str XS, .lst XM]])]⟩ := by
  have h1 := h_a30 u1 u2 u3 u1 u2 u3 t c0 c1 c2 c3 h0 h1 h2 h3
  refine call_at h1 hC hasBody_21 rfl ?_ ⟨⟨rfl, rnO_varI (of_decide_eq_true rfl)⟩, ⟨rfl, rnO_lv _ (rn_opn (ρ := fun j => j) (of_decide_eq_true rfl))⟩, ⟨rfl, rnO_lv _ (rn_opn (ρ := fun j => j) (of_decide_eq_true rfl))⟩, ⟨rfl, rnO_lv _ (rn_opn (ρ := fun j => j) (of_decide_eq_true rfl))⟩, ⟨rfl, rnO_nd _⟩, trivial⟩ [1, 2, 3, 4] (fun j h1 h2 => ?_) (fun j hj => ?_) ?_ ⟨rnO_varI (of_decide_eq_true rfl), rnO_lv _ (rn_opn (ρ := fun j => j) (of_decide_eq_true rfl)), rnO_lv _ (rn_opn (ρ := fun j => j) (of_decide_eq_true rfl)), rnO_lv _ (rn_opn (ρ := fun j => j) (of_decide_eq_true rfl)), rnO_lv _ (rnV_nr _ ⟨trivial, trivial, trivial, trivial, trivial⟩), trivial⟩ rfl ?_
  · simp [rnL, rnV]
  · simp at h1 h2 ⊢; omega
  · simp at hj ⊢; omega
  · simp [rnV]
  · refine (congrArg (K _) ?_).mpr hK
    kernel_rfl
theorem call_31 {C : Ctx} (hC : C.P = Tryd.prog) {K : V → ES → Prop} (u1 u2 u3 s1 t : Bs) (c0 c1 c2 c3 : List Nd) (h0 : c0.length ≤ 1048576) (h1 : c1.length ≤ 1048576) (h2 : c2.length ≤ 1048576) (h3 : c3.length ≤ 1048576) (R : List V) (L k : Int) (XS : Bs) (XM : List V)
    (hK : K (.sl 1 0 (c0.length + 1)) ⟨67, uS2 R L k [.str u1, .str u2, .str u3, .str s1] t 3, [some (.row 1 [addV]), some (.row 4 (nodesL c0 ++ [opn u1 2 (c1.length + 1)])), some (.row 4 (nodesL c1 ++ [opn u2 3 (c2.length + 1)])), some (.row 4 (nodesL c2 ++ [opn u3 4 (c3.length + 1)])), some (.row 4 (nodesL c3 ++ [opn s1 5 1])), some (.row 4 ([txC t])), some (.row 2 [.agg [.str XS, .lst XM]])]⟩) :
    CallN C (.tmp 55) [.tmp 56, .tmp 58, .const (.bool true), .tmp 60, .tmp 61] 21 ([.sl 1 0 (c0.length + 1), .lst [.str u1, .str u2, .str u3, .str s1], .bool true, .str t, .int .i64 3] ++ [.ptr 0 0 0]) K ⟨67, uS R L k (c0.length + 1) [.str u1, .str u2, .str u3, .str s1] t 3, [some (.row 1 [addV]), some (.row 4 (nodesL c0 ++ [opn u1 2 (c1.length + 1)])), some (.row 4 (nodesL c1 ++ [opn u2 3 (c2.length + 1)])), some (.row 4 (nodesL c2 ++ [opn u3 4 c3.length])), some (.row 4 (nodesL c3)), some (.row 4 []), some (.row 2 [.agg [.str XS, .lst XM]])]⟩ := by
  have h1 := h_a31 u1 u2 u3 u1 u2 u3 s1 t c0 c1 c2 c3 h0 h1 h2 h3
  refine call_at h1 hC hasBody_21 rfl ?_ ⟨⟨rfl, rnO_varI (of_decide_eq_true rfl)⟩, ⟨rfl, rnO_lv _ (rn_opn (ρ := fun j => j) (of_decide_eq_true rfl))⟩, ⟨rfl, rnO_lv _ (rn_opn (ρ := fun j => j) (of_decide_eq_true rfl))⟩, ⟨rfl, rnO_lv _ (rn_opn (ρ := fun j => j) (of_decide_eq_true rfl))⟩, ⟨rfl, rnO_nd _⟩, ⟨rfl, rnO_nil⟩, trivial⟩ [1, 2, 3, 4, 5] (fun j h1 h2 => ?_) (fun j hj => ?_) ?_ ⟨rnO_varI (of_decide_eq_true rfl), rnO_lv _ (rn_opn (ρ := fun j => j) (of_decide_eq_true rfl)), rnO_lv _ (rn_opn (ρ := fun j => j) (of_decide_eq_true rfl)), rnO_lv _ (rn_opn (ρ := fun j => j) (of_decide_eq_true rfl)), rnO_lv _ (rn_opn (ρ := fun j => j) (of_decide_eq_true rfl)), rnO_txt t, trivial⟩ rfl ?_
  · simp [rnL, rnV]
  · simp at h1 h2 ⊢; omega
  · simp at hj ⊢; omega
  · simp [rnV]
  · refine (congrArg (K _) ?_).mpr hK
    kernel_rfl
theorem call_40 {C : Ctx} (hC : C.P = Tryd.prog) {K : V → ES → Prop} (u1 u2 u3 u4 t : Bs) (c0 c1 c2 c3 c4 : List Nd) (h0 : c0.length ≤ 1048576) (h1 : c1.length ≤ 1048576) (h2 : c2.length ≤ 1048576) (h3 : c3.length ≤ 1048576) (h4 : c4.length ≤ 1048576) (R : List V) (L k : Int) (XS : Bs) (XM : List V)
    (hK : K (.sl 1 0 (c0.length + 1)) ⟨67, uS2 R L k [.str u1, .str u2, .str u3, .str u4] t 4, [some (.row 1 [addV]), some (.row 4 (nodesL c0 ++ [opn u1 2 (c1.length + 1)])), some (.row 4 (nodesL c1 ++ [opn u2 3 (c2.length + 1)])), some (.row 4 (nodesL c2 ++ [opn u3 4 (c3.length + 1)])), some (.row 4 (nodesL c3 ++ [opn u4 5 (c4.length + 1)])), some (.row 4 (nodesL c4 ++ [txC t])), some (.row 2 [.agg [.str XS, .lst XM]])]⟩) :
    CallN C (.tmp 55) [.tmp 56, .tmp 58, .const (.bool true), .tmp 60, .tmp 61] 21 ([.sl 1 0 (c0.length + 1), .lst [.str u1, .str u2, .str u3, .str u4], .bool true, .str t, .int .i64 4] ++ [.ptr 0 0 0]) K ⟨67, uS R L k (c0.length + 1) [.str u1, .str u2, .str u3, .str u4] t 4, [some (.row 1 [addV]), some (.row 4 (nodesL c0 ++ [opn u1 2 (c1.length + 1)])), some (.row 4 (nodesL c1 ++ [opn u2 3 (c2.length + 1)])), some (.row 4 (nodesL c2 ++ [opn u3 4 (c3.length + 1)])), some (.row 4 (nodesL c3 ++ [opn u4 5 c4.length])), some (.row 4 (nodesL c4)), some (.row 2 [.agg [.str XS, .lst XM]])]⟩ := by
  have h1 := h_a40 u1 u2 u3 u4 u1 u2 u3 u4 t c0 c1 c2 c3 c4 h0 h1 h2 h3 h4
  refine call_at h1 hC hasBody_21 rfl ?_ ⟨⟨rfl, rnO_varI (of_decide_eq_true rfl)⟩, ⟨rfl, rnO_lv _ (rn_opn (ρ := fun j => j) (of_decide_eq_true rfl))⟩, ⟨rfl, rnO_lv _ (rn_opn (ρ := fun j => j) (of_decide_eq_true rfl))⟩, ⟨rfl, rnO_lv _ (rn_opn (ρ := fun j => j) (of_decide_eq_true rfl))⟩, ⟨rfl, rnO_lv _ (rn_opn (ρ := fun j => j) (of_decide_eq_true rfl))⟩, ⟨rfl, rnO_nd _⟩, trivial⟩ [1, 2, 3, 4, 5] (fun j h1 h2 => ?_) (fun j hj => ?_) ?_ ⟨rnO_varI (of_decide_eq_true rfl), rnO_lv _ (rn_opn (ρ := fun j => j) (of_decide_eq_true rfl)), rnO_lv _ (rn_opn (ρ := fun j => j) (of_decide_eq_true rfl)), rnO_lv _ (rn_opn (ρ := fun j => j) (of_decide_eq_true rfl)), rnO_lv _ (rn_opn (ρ := fun j => j) (of_decide_eq_true rfl)), rnO_lv _ (rnV_nr _ ⟨trivial, trivial, trivial, trivial, trivial⟩), trivial⟩ rfl ?_
  · simp [rnL, rnV]
  · simp at h1 h2 ⊢; omega
  · simp at hj ⊢; omega
  · simp [rnV]
  · refine (congrArg (K _) ?_).mpr hK
    kernel_rfl
end Go.Proofs.YtkkcmobnhiiacaaDoor

/-! The document's MarksNest: its call of add, whatever is open. No conditions. -/
namespace Go.Proofs.YtkkcmobnhiiacaaDoor
open Go.RowKit

def lenF : List Bs → List (List Nd) → Nat
  | [], c :: _ => c.length
  | _ :: _, c :: _ => c.length + 1
  | _, [] => 0
def rwL : List Bs → List (List Nd) → Nat → List (List V)
  | [], c :: _, _ => [nodesL c]
  | n :: ns, c :: cs, p => (nodesL c ++ [opn n (p + 1) (lenF ns cs)]) :: rwL ns cs (p + 1)
  | _, [], _ => []
def rg (last : List Bs) (cs : List (List Nd)) (i : Nat) : List V := (rwL last cs 1).getD i []
def hpC (last : List Bs) (cs : List (List Nd)) (X : Option Ob) : List (Option Ob) := [some (.row 1 [addV]), some (.row 4 (rg last cs 0)), some (.row 4 (rg last cs 1)), some (.row 4 (rg last cs 2)), some (.row 4 (rg last cs 3)), some (.row 4 (rg last cs 4)), X]
def treeC : List Bs → List (List Nd) → List Nd
  | [], c :: _ => c
  | n :: ns, c :: cs => c ++ [elN n (treeC ns cs)]
  | _, [] => []
def csC : Nat → List Bs → List (List Nd) → List (List Nd)
  | 0, last, cs => [treeC last cs]
  | o + 1, _ :: last, c :: cs => c :: csC o last cs
  | _ + 1, _, _ => []
def newC (c : List Nd) : List Bs → Bs → List (List Nd)
  | [], t => [c ++ [txN0 t]]
  | _ :: ms, t => c :: newC [] ms t
def stp0 : Nat → List (List Nd) → List Bs → Bs → List (List Nd)
  | 0, c :: _, ms, t => newC c ms t
  | o + 1, c :: cs, _ :: ms, t => c :: stp0 o cs ms t
  | _, _, _, _ => []
theorem txA (t : Bs) : nodesL [txN0 t] = [txC t] := by simp [nodesL, txN0, nodeA_mk, txC]
theorem txB (c : List Nd) (t : Bs) : nodesL (c ++ [txN0 t]) = nodesL c ++ [txC t] := by rw [nodesL_append, txA]
theorem nds0 : nodesL [] = [] := by simp [nodesL]
theorem ac_00 {C : Ctx} (hC : C.P = Tryd.prog) {K : V → ES → Prop} (t : Bs) (c0 : List Nd) (h0 : c0.length ≤ 1048576) (R : List V) (L k : Int) (XS : Bs) (XM : List V)
    (hK : K (.sl 1 0 (lenF [] (stp0 0 [c0] [] t))) ⟨67, uS2 R L k (List.map V.str []) t (0 : Nat), hpC [] (stp0 0 [c0] [] t) (some (.row 2 [.agg [.str XS, .lst XM]]))⟩) :
    CallN C (.tmp 55) [.tmp 56, .tmp 58, .const (.bool true), .tmp 60, .tmp 61] 21 ([.sl 1 0 (lenF [] [c0]), .lst (List.map V.str []), .bool true, .str t, .int .i64 (0 : Nat)] ++ [.ptr 0 0 0]) K ⟨67, uS R L k (lenF [] [c0]) (List.map V.str []) t (0 : Nat), hpC [] [c0] (some (.row 2 [.agg [.str XS, .lst XM]]))⟩ := by
  refine call_00 hC t c0 h0 R L k XS XM ?_
  simpa [hpC, rg, rwL, lenF, stp0, newC, txA, txB, nds0] using hK
theorem ac_01 {C : Ctx} (hC : C.P = Tryd.prog) {K : V → ES → Prop} (s1 t : Bs) (c0 : List Nd) (h0 : c0.length ≤ 1048576) (R : List V) (L k : Int) (XS : Bs) (XM : List V)
    (hK : K (.sl 1 0 (lenF [s1] (stp0 0 [c0] [s1] t))) ⟨67, uS2 R L k (List.map V.str [s1]) t (0 : Nat), hpC [s1] (stp0 0 [c0] [s1] t) (some (.row 2 [.agg [.str XS, .lst XM]]))⟩) :
    CallN C (.tmp 55) [.tmp 56, .tmp 58, .const (.bool true), .tmp 60, .tmp 61] 21 ([.sl 1 0 (lenF [] [c0]), .lst (List.map V.str [s1]), .bool true, .str t, .int .i64 (0 : Nat)] ++ [.ptr 0 0 0]) K ⟨67, uS R L k (lenF [] [c0]) (List.map V.str [s1]) t (0 : Nat), hpC [] [c0] (some (.row 2 [.agg [.str XS, .lst XM]]))⟩ := by
  refine call_01 hC s1 t c0 h0 R L k XS XM ?_
  simpa [hpC, rg, rwL, lenF, stp0, newC, txA, txB, nds0] using hK
theorem ac_02 {C : Ctx} (hC : C.P = Tryd.prog) {K : V → ES → Prop} (s1 s2 t : Bs) (c0 : List Nd) (h0 : c0.length ≤ 1048576) (R : List V) (L k : Int) (XS : Bs) (XM : List V)
    (hK : K (.sl 1 0 (lenF [s1, s2] (stp0 0 [c0] [s1, s2] t))) ⟨67, uS2 R L k (List.map V.str [s1, s2]) t (0 : Nat), hpC [s1, s2] (stp0 0 [c0] [s1, s2] t) (some (.row 2 [.agg [.str XS, .lst XM]]))⟩) :
    CallN C (.tmp 55) [.tmp 56, .tmp 58, .const (.bool true), .tmp 60, .tmp 61] 21 ([.sl 1 0 (lenF [] [c0]), .lst (List.map V.str [s1, s2]), .bool true, .str t, .int .i64 (0 : Nat)] ++ [.ptr 0 0 0]) K ⟨67, uS R L k (lenF [] [c0]) (List.map V.str [s1, s2]) t (0 : Nat), hpC [] [c0] (some (.row 2 [.agg [.str XS, .lst XM]]))⟩ := by
  refine call_02 hC s1 s2 t c0 h0 R L k XS XM ?_
  simpa [hpC, rg, rwL, lenF, stp0, newC, txA, txB, nds0] using hK
theorem ac_03 {C : Ctx} (hC : C.P = Tryd.prog) {K : V → ES → Prop} (s1 s2 s3 t : Bs) (c0 : List Nd) (h0 : c0.length ≤ 1048576) (R : List V) (L k : Int) (XS : Bs) (XM : List V)
    (hK : K (.sl 1 0 (lenF [s1, s2, s3] (stp0 0 [c0] [s1, s2, s3] t))) ⟨67, uS2 R L k (List.map V.str [s1, s2, s3]) t (0 : Nat), hpC [s1, s2, s3] (stp0 0 [c0] [s1, s2, s3] t) (some (.row 2 [.agg [.str XS, .lst XM]]))⟩) :
    CallN C (.tmp 55) [.tmp 56, .tmp 58, .const (.bool true), .tmp 60, .tmp 61] 21 ([.sl 1 0 (lenF [] [c0]), .lst (List.map V.str [s1, s2, s3]), .bool true, .str t, .int .i64 (0 : Nat)] ++ [.ptr 0 0 0]) K ⟨67, uS R L k (lenF [] [c0]) (List.map V.str [s1, s2, s3]) t (0 : Nat), hpC [] [c0] (some (.row 2 [.agg [.str XS, .lst XM]]))⟩ := by
  refine call_03 hC s1 s2 s3 t c0 h0 R L k XS XM ?_
  simpa [hpC, rg, rwL, lenF, stp0, newC, txA, txB, nds0] using hK
theorem ac_04 {C : Ctx} (hC : C.P = Tryd.prog) {K : V → ES → Prop} (s1 s2 s3 s4 t : Bs) (c0 : List Nd) (h0 : c0.length ≤ 1048576) (R : List V) (L k : Int) (XS : Bs) (XM : List V)
    (hK : K (.sl 1 0 (lenF [s1, s2, s3, s4] (stp0 0 [c0] [s1, s2, s3, s4] t))) ⟨67, uS2 R L k (List.map V.str [s1, s2, s3, s4]) t (0 : Nat), hpC [s1, s2, s3, s4] (stp0 0 [c0] [s1, s2, s3, s4] t) (some (.row 2 [.agg [.str XS, .lst XM]]))⟩) :
    CallN C (.tmp 55) [.tmp 56, .tmp 58, .const (.bool true), .tmp 60, .tmp 61] 21 ([.sl 1 0 (lenF [] [c0]), .lst (List.map V.str [s1, s2, s3, s4]), .bool true, .str t, .int .i64 (0 : Nat)] ++ [.ptr 0 0 0]) K ⟨67, uS R L k (lenF [] [c0]) (List.map V.str [s1, s2, s3, s4]) t (0 : Nat), hpC [] [c0] (some (.row 2 [.agg [.str XS, .lst XM]]))⟩ := by
  refine call_04 hC s1 s2 s3 s4 t c0 h0 R L k XS XM ?_
  simpa [hpC, rg, rwL, lenF, stp0, newC, txA, txB, nds0] using hK
theorem ac_10 {C : Ctx} (hC : C.P = Tryd.prog) {K : V → ES → Prop} (u1 t : Bs) (c0 c1 : List Nd) (h0 : c0.length ≤ 1048576) (h1 : c1.length ≤ 1048576) (R : List V) (L k : Int) (XS : Bs) (XM : List V)
    (hK : K (.sl 1 0 (lenF [u1] (stp0 1 [c0, c1] [u1] t))) ⟨67, uS2 R L k (List.map V.str [u1]) t (1 : Nat), hpC [u1] (stp0 1 [c0, c1] [u1] t) (some (.row 2 [.agg [.str XS, .lst XM]]))⟩) :
    CallN C (.tmp 55) [.tmp 56, .tmp 58, .const (.bool true), .tmp 60, .tmp 61] 21 ([.sl 1 0 (lenF [u1] [c0, c1]), .lst (List.map V.str [u1]), .bool true, .str t, .int .i64 (1 : Nat)] ++ [.ptr 0 0 0]) K ⟨67, uS R L k (lenF [u1] [c0, c1]) (List.map V.str [u1]) t (1 : Nat), hpC [u1] [c0, c1] (some (.row 2 [.agg [.str XS, .lst XM]]))⟩ := by
  refine call_10 hC u1 t c0 c1 h0 h1 R L k XS XM ?_
  simpa [hpC, rg, rwL, lenF, stp0, newC, txA, txB, nds0] using hK
theorem ac_11 {C : Ctx} (hC : C.P = Tryd.prog) {K : V → ES → Prop} (u1 s1 t : Bs) (c0 c1 : List Nd) (h0 : c0.length ≤ 1048576) (h1 : c1.length ≤ 1048576) (R : List V) (L k : Int) (XS : Bs) (XM : List V)
    (hK : K (.sl 1 0 (lenF [u1, s1] (stp0 1 [c0, c1] [u1, s1] t))) ⟨67, uS2 R L k (List.map V.str [u1, s1]) t (1 : Nat), hpC [u1, s1] (stp0 1 [c0, c1] [u1, s1] t) (some (.row 2 [.agg [.str XS, .lst XM]]))⟩) :
    CallN C (.tmp 55) [.tmp 56, .tmp 58, .const (.bool true), .tmp 60, .tmp 61] 21 ([.sl 1 0 (lenF [u1] [c0, c1]), .lst (List.map V.str [u1, s1]), .bool true, .str t, .int .i64 (1 : Nat)] ++ [.ptr 0 0 0]) K ⟨67, uS R L k (lenF [u1] [c0, c1]) (List.map V.str [u1, s1]) t (1 : Nat), hpC [u1] [c0, c1] (some (.row 2 [.agg [.str XS, .lst XM]]))⟩ := by
  refine call_11 hC u1 s1 t c0 c1 h0 h1 R L k XS XM ?_
  simpa [hpC, rg, rwL, lenF, stp0, newC, txA, txB, nds0] using hK
theorem ac_12 {C : Ctx} (hC : C.P = Tryd.prog) {K : V → ES → Prop} (u1 s1 s2 t : Bs) (c0 c1 : List Nd) (h0 : c0.length ≤ 1048576) (h1 : c1.length ≤ 1048576) (R : List V) (L k : Int) (XS : Bs) (XM : List V)
    (hK : K (.sl 1 0 (lenF [u1, s1, s2] (stp0 1 [c0, c1] [u1, s1, s2] t))) ⟨67, uS2 R L k (List.map V.str [u1, s1, s2]) t (1 : Nat), hpC [u1, s1, s2] (stp0 1 [c0, c1] [u1, s1, s2] t) (some (.row 2 [.agg [.str XS, .lst XM]]))⟩) :
    CallN C (.tmp 55) [.tmp 56, .tmp 58, .const (.bool true), .tmp 60, .tmp 61] 21 ([.sl 1 0 (lenF [u1] [c0, c1]), .lst (List.map V.str [u1, s1, s2]), .bool true, .str t, .int .i64 (1 : Nat)] ++ [.ptr 0 0 0]) K ⟨67, uS R L k (lenF [u1] [c0, c1]) (List.map V.str [u1, s1, s2]) t (1 : Nat), hpC [u1] [c0, c1] (some (.row 2 [.agg [.str XS, .lst XM]]))⟩ := by
  refine call_12 hC u1 s1 s2 t c0 c1 h0 h1 R L k XS XM ?_
  simpa [hpC, rg, rwL, lenF, stp0, newC, txA, txB, nds0] using hK
theorem ac_13 {C : Ctx} (hC : C.P = Tryd.prog) {K : V → ES → Prop} (u1 s1 s2 s3 t : Bs) (c0 c1 : List Nd) (h0 : c0.length ≤ 1048576) (h1 : c1.length ≤ 1048576) (R : List V) (L k : Int) (XS : Bs) (XM : List V)
    (hK : K (.sl 1 0 (lenF [u1, s1, s2, s3] (stp0 1 [c0, c1] [u1, s1, s2, s3] t))) ⟨67, uS2 R L k (List.map V.str [u1, s1, s2, s3]) t (1 : Nat), hpC [u1, s1, s2, s3] (stp0 1 [c0, c1] [u1, s1, s2, s3] t) (some (.row 2 [.agg [.str XS, .lst XM]]))⟩) :
    CallN C (.tmp 55) [.tmp 56, .tmp 58, .const (.bool true), .tmp 60, .tmp 61] 21 ([.sl 1 0 (lenF [u1] [c0, c1]), .lst (List.map V.str [u1, s1, s2, s3]), .bool true, .str t, .int .i64 (1 : Nat)] ++ [.ptr 0 0 0]) K ⟨67, uS R L k (lenF [u1] [c0, c1]) (List.map V.str [u1, s1, s2, s3]) t (1 : Nat), hpC [u1] [c0, c1] (some (.row 2 [.agg [.str XS, .lst XM]]))⟩ := by
  refine call_13 hC u1 s1 s2 s3 t c0 c1 h0 h1 R L k XS XM ?_
  simpa [hpC, rg, rwL, lenF, stp0, newC, txA, txB, nds0] using hK
theorem ac_20 {C : Ctx} (hC : C.P = Tryd.prog) {K : V → ES → Prop} (u1 u2 t : Bs) (c0 c1 c2 : List Nd) (h0 : c0.length ≤ 1048576) (h1 : c1.length ≤ 1048576) (h2 : c2.length ≤ 1048576) (R : List V) (L k : Int) (XS : Bs) (XM : List V)
    (hK : K (.sl 1 0 (lenF [u1, u2] (stp0 2 [c0, c1, c2] [u1, u2] t))) ⟨67, uS2 R L k (List.map V.str [u1, u2]) t (2 : Nat), hpC [u1, u2] (stp0 2 [c0, c1, c2] [u1, u2] t) (some (.row 2 [.agg [.str XS, .lst XM]]))⟩) :
    CallN C (.tmp 55) [.tmp 56, .tmp 58, .const (.bool true), .tmp 60, .tmp 61] 21 ([.sl 1 0 (lenF [u1, u2] [c0, c1, c2]), .lst (List.map V.str [u1, u2]), .bool true, .str t, .int .i64 (2 : Nat)] ++ [.ptr 0 0 0]) K ⟨67, uS R L k (lenF [u1, u2] [c0, c1, c2]) (List.map V.str [u1, u2]) t (2 : Nat), hpC [u1, u2] [c0, c1, c2] (some (.row 2 [.agg [.str XS, .lst XM]]))⟩ := by
  refine call_20 hC u1 u2 t c0 c1 c2 h0 h1 h2 R L k XS XM ?_
  simpa [hpC, rg, rwL, lenF, stp0, newC, txA, txB, nds0] using hK
theorem ac_21 {C : Ctx} (hC : C.P = Tryd.prog) {K : V → ES → Prop} (u1 u2 s1 t : Bs) (c0 c1 c2 : List Nd) (h0 : c0.length ≤ 1048576) (h1 : c1.length ≤ 1048576) (h2 : c2.length ≤ 1048576) (R : List V) (L k : Int) (XS : Bs) (XM : List V)
    (hK : K (.sl 1 0 (lenF [u1, u2, s1] (stp0 2 [c0, c1, c2] [u1, u2, s1] t))) ⟨67, uS2 R L k (List.map V.str [u1, u2, s1]) t (2 : Nat), hpC [u1, u2, s1] (stp0 2 [c0, c1, c2] [u1, u2, s1] t) (some (.row 2 [.agg [.str XS, .lst XM]]))⟩) :
    CallN C (.tmp 55) [.tmp 56, .tmp 58, .const (.bool true), .tmp 60, .tmp 61] 21 ([.sl 1 0 (lenF [u1, u2] [c0, c1, c2]), .lst (List.map V.str [u1, u2, s1]), .bool true, .str t, .int .i64 (2 : Nat)] ++ [.ptr 0 0 0]) K ⟨67, uS R L k (lenF [u1, u2] [c0, c1, c2]) (List.map V.str [u1, u2, s1]) t (2 : Nat), hpC [u1, u2] [c0, c1, c2] (some (.row 2 [.agg [.str XS, .lst XM]]))⟩ := by
  refine call_21 hC u1 u2 s1 t c0 c1 c2 h0 h1 h2 R L k XS XM ?_
  simpa [hpC, rg, rwL, lenF, stp0, newC, txA, txB, nds0] using hK
theorem ac_22 {C : Ctx} (hC : C.P = Tryd.prog) {K : V → ES → Prop} (u1 u2 s1 s2 t : Bs) (c0 c1 c2 : List Nd) (h0 : c0.length ≤ 1048576) (h1 : c1.length ≤ 1048576) (h2 : c2.length ≤ 1048576) (R : List V) (L k : Int) (XS : Bs) (XM : List V)
    (hK : K (.sl 1 0 (lenF [u1, u2, s1, s2] (stp0 2 [c0, c1, c2] [u1, u2, s1, s2] t))) ⟨67, uS2 R L k (List.map V.str [u1, u2, s1, s2]) t (2 : Nat), hpC [u1, u2, s1, s2] (stp0 2 [c0, c1, c2] [u1, u2, s1, s2] t) (some (.row 2 [.agg [.str XS, .lst XM]]))⟩) :
    CallN C (.tmp 55) [.tmp 56, .tmp 58, .const (.bool true), .tmp 60, .tmp 61] 21 ([.sl 1 0 (lenF [u1, u2] [c0, c1, c2]), .lst (List.map V.str [u1, u2, s1, s2]), .bool true, .str t, .int .i64 (2 : Nat)] ++ [.ptr 0 0 0]) K ⟨67, uS R L k (lenF [u1, u2] [c0, c1, c2]) (List.map V.str [u1, u2, s1, s2]) t (2 : Nat), hpC [u1, u2] [c0, c1, c2] (some (.row 2 [.agg [.str XS, .lst XM]]))⟩ := by
  refine call_22 hC u1 u2 s1 s2 t c0 c1 c2 h0 h1 h2 R L k XS XM ?_
  simpa [hpC, rg, rwL, lenF, stp0, newC, txA, txB, nds0] using hK
theorem ac_30 {C : Ctx} (hC : C.P = Tryd.prog) {K : V → ES → Prop} (u1 u2 u3 t : Bs) (c0 c1 c2 c3 : List Nd) (h0 : c0.length ≤ 1048576) (h1 : c1.length ≤ 1048576) (h2 : c2.length ≤ 1048576) (h3 : c3.length ≤ 1048576) (R : List V) (L k : Int) (XS : Bs) (XM : List V)
    (hK : K (.sl 1 0 (lenF [u1, u2, u3] (stp0 3 [c0, c1, c2, c3] [u1, u2, u3] t))) ⟨67, uS2 R L k (List.map V.str [u1, u2, u3]) t (3 : Nat), hpC [u1, u2, u3] (stp0 3 [c0, c1, c2, c3] [u1, u2, u3] t) (some (.row 2 [.agg [.str XS, .lst XM]]))⟩) :
    CallN C (.tmp 55) [.tmp 56, .tmp 58, .const (.bool true), .tmp 60, .tmp 61] 21 ([.sl 1 0 (lenF [u1, u2, u3] [c0, c1, c2, c3]), .lst (List.map V.str [u1, u2, u3]), .bool true, .str t, .int .i64 (3 : Nat)] ++ [.ptr 0 0 0]) K ⟨67, uS R L k (lenF [u1, u2, u3] [c0, c1, c2, c3]) (List.map V.str [u1, u2, u3]) t (3 : Nat), hpC [u1, u2, u3] [c0, c1, c2, c3] (some (.row 2 [.agg [.str XS, .lst XM]]))⟩ := by
  refine call_30 hC u1 u2 u3 t c0 c1 c2 c3 h0 h1 h2 h3 R L k XS XM ?_
  simpa [hpC, rg, rwL, lenF, stp0, newC, txA, txB, nds0] using hK
theorem ac_31 {C : Ctx} (hC : C.P = Tryd.prog) {K : V → ES → Prop} (u1 u2 u3 s1 t : Bs) (c0 c1 c2 c3 : List Nd) (h0 : c0.length ≤ 1048576) (h1 : c1.length ≤ 1048576) (h2 : c2.length ≤ 1048576) (h3 : c3.length ≤ 1048576) (R : List V) (L k : Int) (XS : Bs) (XM : List V)
    (hK : K (.sl 1 0 (lenF [u1, u2, u3, s1] (stp0 3 [c0, c1, c2, c3] [u1, u2, u3, s1] t))) ⟨67, uS2 R L k (List.map V.str [u1, u2, u3, s1]) t (3 : Nat), hpC [u1, u2, u3, s1] (stp0 3 [c0, c1, c2, c3] [u1, u2, u3, s1] t) (some (.row 2 [.agg [.str XS, .lst XM]]))⟩) :
    CallN C (.tmp 55) [.tmp 56, .tmp 58, .const (.bool true), .tmp 60, .tmp 61] 21 ([.sl 1 0 (lenF [u1, u2, u3] [c0, c1, c2, c3]), .lst (List.map V.str [u1, u2, u3, s1]), .bool true, .str t, .int .i64 (3 : Nat)] ++ [.ptr 0 0 0]) K ⟨67, uS R L k (lenF [u1, u2, u3] [c0, c1, c2, c3]) (List.map V.str [u1, u2, u3, s1]) t (3 : Nat), hpC [u1, u2, u3] [c0, c1, c2, c3] (some (.row 2 [.agg [.str XS, .lst XM]]))⟩ := by
  refine call_31 hC u1 u2 u3 s1 t c0 c1 c2 c3 h0 h1 h2 h3 R L k XS XM ?_
  simpa [hpC, rg, rwL, lenF, stp0, newC, txA, txB, nds0] using hK
theorem ac_40 {C : Ctx} (hC : C.P = Tryd.prog) {K : V → ES → Prop} (u1 u2 u3 u4 t : Bs) (c0 c1 c2 c3 c4 : List Nd) (h0 : c0.length ≤ 1048576) (h1 : c1.length ≤ 1048576) (h2 : c2.length ≤ 1048576) (h3 : c3.length ≤ 1048576) (h4 : c4.length ≤ 1048576) (R : List V) (L k : Int) (XS : Bs) (XM : List V)
    (hK : K (.sl 1 0 (lenF [u1, u2, u3, u4] (stp0 4 [c0, c1, c2, c3, c4] [u1, u2, u3, u4] t))) ⟨67, uS2 R L k (List.map V.str [u1, u2, u3, u4]) t (4 : Nat), hpC [u1, u2, u3, u4] (stp0 4 [c0, c1, c2, c3, c4] [u1, u2, u3, u4] t) (some (.row 2 [.agg [.str XS, .lst XM]]))⟩) :
    CallN C (.tmp 55) [.tmp 56, .tmp 58, .const (.bool true), .tmp 60, .tmp 61] 21 ([.sl 1 0 (lenF [u1, u2, u3, u4] [c0, c1, c2, c3, c4]), .lst (List.map V.str [u1, u2, u3, u4]), .bool true, .str t, .int .i64 (4 : Nat)] ++ [.ptr 0 0 0]) K ⟨67, uS R L k (lenF [u1, u2, u3, u4] [c0, c1, c2, c3, c4]) (List.map V.str [u1, u2, u3, u4]) t (4 : Nat), hpC [u1, u2, u3, u4] [c0, c1, c2, c3, c4] (some (.row 2 [.agg [.str XS, .lst XM]]))⟩ := by
  refine call_40 hC u1 u2 u3 u4 t c0 c1 c2 c3 c4 h0 h1 h2 h3 h4 R L k XS XM ?_
  simpa [hpC, rg, rwL, lenF, stp0, newC, txA, txB, nds0] using hK
theorem add_call0 {C : Ctx} (hC : C.P = Tryd.prog) {K : V → ES → Prop} (ms : List Bs) (o : Nat) (cs : List (List Nd)) (t : Bs) (hm : ms.length ≤ 4) (ho : o ≤ ms.length) (hc : cs.length = o + 1) (hb : ∀ c ∈ cs, c.length ≤ 1048576) (R : List V) (L k : Int) (XS : Bs) (XM : List V)
    (hK : K (.sl 1 0 (lenF ms (stp0 o cs ms t))) ⟨67, uS2 R L k (ms.map V.str) t o, hpC ms (stp0 o cs ms t) (some (.row 2 [.agg [.str XS, .lst XM]]))⟩) :
    CallN C (.tmp 55) [.tmp 56, .tmp 58, .const (.bool true), .tmp 60, .tmp 61] 21 ([.sl 1 0 (lenF (ms.take o) cs), .lst (ms.map V.str), .bool true, .str t, .int .i64 o] ++ [.ptr 0 0 0]) K ⟨67, uS R L k (lenF (ms.take o) cs) (ms.map V.str) t o, hpC (ms.take o) cs (some (.row 2 [.agg [.str XS, .lst XM]]))⟩ := by
  rcases ms with _ | ⟨m1, _ | ⟨m2, _ | ⟨m3, _ | ⟨m4, _ | ⟨m5, r⟩⟩⟩⟩⟩
  · have ho : o ≤ 0 := ho
    rcases cs with _ | ⟨c0, _ | ⟨c1, _ | ⟨c2, _ | ⟨c3, _ | ⟨c4, cr⟩⟩⟩⟩⟩
    · exfalso; simp only [List.length_nil, List.length_cons] at hc; omega
    · obtain rfl : o = 0 := by simp only [List.length_nil, List.length_cons] at hc; omega
      exact ac_00 hC t c0 (hb _ (by simp)) R L k XS XM hK
    · exfalso; simp only [List.length_nil, List.length_cons] at hc; omega
    · exfalso; simp only [List.length_nil, List.length_cons] at hc; omega
    · exfalso; simp only [List.length_nil, List.length_cons] at hc; omega
    · exfalso; simp only [List.length_nil, List.length_cons] at hc; omega
  · have ho : o ≤ 1 := ho
    rcases cs with _ | ⟨c0, _ | ⟨c1, _ | ⟨c2, _ | ⟨c3, _ | ⟨c4, cr⟩⟩⟩⟩⟩
    · exfalso; simp only [List.length_nil, List.length_cons] at hc; omega
    · obtain rfl : o = 0 := by simp only [List.length_nil, List.length_cons] at hc; omega
      exact ac_01 hC m1 t c0 (hb _ (by simp)) R L k XS XM hK
    · obtain rfl : o = 1 := by simp only [List.length_nil, List.length_cons] at hc; omega
      exact ac_10 hC m1 t c0 c1 (hb _ (by simp)) (hb _ (by simp)) R L k XS XM hK
    · exfalso; simp only [List.length_nil, List.length_cons] at hc; omega
    · exfalso; simp only [List.length_nil, List.length_cons] at hc; omega
    · exfalso; simp only [List.length_nil, List.length_cons] at hc; omega
  · have ho : o ≤ 2 := ho
    rcases cs with _ | ⟨c0, _ | ⟨c1, _ | ⟨c2, _ | ⟨c3, _ | ⟨c4, cr⟩⟩⟩⟩⟩
    · exfalso; simp only [List.length_nil, List.length_cons] at hc; omega
    · obtain rfl : o = 0 := by simp only [List.length_nil, List.length_cons] at hc; omega
      exact ac_02 hC m1 m2 t c0 (hb _ (by simp)) R L k XS XM hK
    · obtain rfl : o = 1 := by simp only [List.length_nil, List.length_cons] at hc; omega
      exact ac_11 hC m1 m2 t c0 c1 (hb _ (by simp)) (hb _ (by simp)) R L k XS XM hK
    · obtain rfl : o = 2 := by simp only [List.length_nil, List.length_cons] at hc; omega
      exact ac_20 hC m1 m2 t c0 c1 c2 (hb _ (by simp)) (hb _ (by simp)) (hb _ (by simp)) R L k XS XM hK
    · exfalso; simp only [List.length_nil, List.length_cons] at hc; omega
    · exfalso; simp only [List.length_nil, List.length_cons] at hc; omega
  · have ho : o ≤ 3 := ho
    rcases cs with _ | ⟨c0, _ | ⟨c1, _ | ⟨c2, _ | ⟨c3, _ | ⟨c4, cr⟩⟩⟩⟩⟩
    · exfalso; simp only [List.length_nil, List.length_cons] at hc; omega
    · obtain rfl : o = 0 := by simp only [List.length_nil, List.length_cons] at hc; omega
      exact ac_03 hC m1 m2 m3 t c0 (hb _ (by simp)) R L k XS XM hK
    · obtain rfl : o = 1 := by simp only [List.length_nil, List.length_cons] at hc; omega
      exact ac_12 hC m1 m2 m3 t c0 c1 (hb _ (by simp)) (hb _ (by simp)) R L k XS XM hK
    · obtain rfl : o = 2 := by simp only [List.length_nil, List.length_cons] at hc; omega
      exact ac_21 hC m1 m2 m3 t c0 c1 c2 (hb _ (by simp)) (hb _ (by simp)) (hb _ (by simp)) R L k XS XM hK
    · obtain rfl : o = 3 := by simp only [List.length_nil, List.length_cons] at hc; omega
      exact ac_30 hC m1 m2 m3 t c0 c1 c2 c3 (hb _ (by simp)) (hb _ (by simp)) (hb _ (by simp)) (hb _ (by simp)) R L k XS XM hK
    · exfalso; simp only [List.length_nil, List.length_cons] at hc; omega
  · have ho : o ≤ 4 := ho
    rcases cs with _ | ⟨c0, _ | ⟨c1, _ | ⟨c2, _ | ⟨c3, _ | ⟨c4, cr⟩⟩⟩⟩⟩
    · exfalso; simp only [List.length_nil, List.length_cons] at hc; omega
    · obtain rfl : o = 0 := by simp only [List.length_nil, List.length_cons] at hc; omega
      exact ac_04 hC m1 m2 m3 m4 t c0 (hb _ (by simp)) R L k XS XM hK
    · obtain rfl : o = 1 := by simp only [List.length_nil, List.length_cons] at hc; omega
      exact ac_13 hC m1 m2 m3 m4 t c0 c1 (hb _ (by simp)) (hb _ (by simp)) R L k XS XM hK
    · obtain rfl : o = 2 := by simp only [List.length_nil, List.length_cons] at hc; omega
      exact ac_22 hC m1 m2 m3 m4 t c0 c1 c2 (hb _ (by simp)) (hb _ (by simp)) (hb _ (by simp)) R L k XS XM hK
    · obtain rfl : o = 3 := by simp only [List.length_nil, List.length_cons] at hc; omega
      exact ac_31 hC m1 m2 m3 m4 t c0 c1 c2 c3 (hb _ (by simp)) (hb _ (by simp)) (hb _ (by simp)) (hb _ (by simp)) R L k XS XM hK
    · obtain rfl : o = 4 := by simp only [List.length_nil, List.length_cons] at hc; omega
      obtain rfl : cr = [] := List.eq_nil_of_length_eq_zero (by simp only [List.length_cons] at hc; omega)
      exact ac_40 hC m1 m2 m3 m4 t c0 c1 c2 c3 c4 (hb _ (by simp)) (hb _ (by simp)) (hb _ (by simp)) (hb _ (by simp)) (hb _ (by simp)) R L k XS XM hK
  · exfalso; simp only [List.length_cons] at hm; omega
end Go.Proofs.YtkkcmobnhiiacaaDoor

/-! The document's MarksNest: what no longer goes on is closed; then add. No conditions. -/
namespace Go.Proofs.YtkkcmobnhiiacaaDoor
open Go.RowKit

theorem cl_00 {C : Ctx} {K : ES → Prop} (c0 : List Nd) (R : List V) (L k : Int) (n0 : Nat) (M : List V) (t : Bs) (o : Int) (XS : Bs) (XM : List V) (hk : UpE C K ⟨67, (uS R L k n0 M t o), hpC (List.take 0 []) (csC 0 [] [c0]) (some (.row 2 [.agg [.str XS, .lst XM]]))⟩) : UpE C K ⟨67, (uS R L k n0 M t o), hpC [] [c0] (some (.row 2 [.agg [.str XS, .lst XM]]))⟩ := by
  simpa [csC, treeC] using hk
theorem cl_10 {C : Ctx} {K : ES → Prop} (a0 : Bs) (c0 c1 : List Nd) (R : List V) (L k : Int) (n0 : Nat) (M : List V) (t : Bs) (o : Int) (XS : Bs) (XM : List V) (hk : UpE C K ⟨67, (uS R L k n0 M t o), hpC (List.take 0 [a0]) (csC 0 [a0] [c0, c1]) (some (.row 2 [.agg [.str XS, .lst XM]]))⟩) : UpE C K ⟨67, (uS R L k n0 M t o), hpC [a0] [c0, c1] (some (.row 2 [.agg [.str XS, .lst XM]]))⟩ := by
  have hk' : UpE C K ⟨67, (uS R L k n0 M t o), [some (.row 1 [addV]), some (.row 4 (nodesL (c0 ++ [elN a0 (c1)]))), some (.row 4 []), some (.row 4 []), some (.row 4 []), some (.row 4 []), some (.row 2 [.agg [.str XS, .lst XM]])]⟩ := by simpa [hpC, rg, rwL, lenF, csC, treeC] using hk
  exact z1 c0 c1 a0 c1.length rfl R L k n0 M t o XS XM hk'
theorem cl_11 {C : Ctx} {K : ES → Prop} (a0 : Bs) (c0 c1 : List Nd) (R : List V) (L k : Int) (n0 : Nat) (M : List V) (t : Bs) (o : Int) (XS : Bs) (XM : List V) (hk : UpE C K ⟨67, (uS R L k n0 M t o), hpC (List.take 1 [a0]) (csC 1 [a0] [c0, c1]) (some (.row 2 [.agg [.str XS, .lst XM]]))⟩) : UpE C K ⟨67, (uS R L k n0 M t o), hpC [a0] [c0, c1] (some (.row 2 [.agg [.str XS, .lst XM]]))⟩ := by
  simpa [csC, treeC] using hk
theorem cl_20 {C : Ctx} {K : ES → Prop} (a0 a1 : Bs) (c0 c1 c2 : List Nd) (R : List V) (L k : Int) (n0 : Nat) (M : List V) (t : Bs) (o : Int) (XS : Bs) (XM : List V) (hk : UpE C K ⟨67, (uS R L k n0 M t o), hpC (List.take 0 [a0, a1]) (csC 0 [a0, a1] [c0, c1, c2]) (some (.row 2 [.agg [.str XS, .lst XM]]))⟩) : UpE C K ⟨67, (uS R L k n0 M t o), hpC [a0, a1] [c0, c1, c2] (some (.row 2 [.agg [.str XS, .lst XM]]))⟩ := by
  have hk' : UpE C K ⟨67, (uS R L k n0 M t o), [some (.row 1 [addV]), some (.row 4 (nodesL (c0 ++ [elN a0 (c1 ++ [elN a1 (c2)])]))), some (.row 4 []), some (.row 4 []), some (.row 4 []), some (.row 4 []), some (.row 2 [.agg [.str XS, .lst XM]])]⟩ := by simpa [hpC, rg, rwL, lenF, csC, treeC] using hk
  exact z2 c0 c1 c2 a0 a1 (c1.length + 1) c2.length rfl R L k n0 M t o XS XM (z1 c0 (c1 ++ [elN a1 (c2)]) a0 (c1.length + 1) (by simp) R L k n0 M t o XS XM hk')
theorem cl_21 {C : Ctx} {K : ES → Prop} (a0 a1 : Bs) (c0 c1 c2 : List Nd) (R : List V) (L k : Int) (n0 : Nat) (M : List V) (t : Bs) (o : Int) (XS : Bs) (XM : List V) (hk : UpE C K ⟨67, (uS R L k n0 M t o), hpC (List.take 1 [a0, a1]) (csC 1 [a0, a1] [c0, c1, c2]) (some (.row 2 [.agg [.str XS, .lst XM]]))⟩) : UpE C K ⟨67, (uS R L k n0 M t o), hpC [a0, a1] [c0, c1, c2] (some (.row 2 [.agg [.str XS, .lst XM]]))⟩ := by
  have hk' : UpE C K ⟨67, (uS R L k n0 M t o), [some (.row 1 [addV]), some (.row 4 (nodesL c0 ++ [opn a0 2 (c1.length + 1)])), some (.row 4 (nodesL (c1 ++ [elN a1 (c2)]))), some (.row 4 []), some (.row 4 []), some (.row 4 []), some (.row 2 [.agg [.str XS, .lst XM]])]⟩ := by simpa [hpC, rg, rwL, lenF, csC, treeC] using hk
  exact z2 c0 c1 c2 a0 a1 (c1.length + 1) c2.length rfl R L k n0 M t o XS XM hk'
theorem cl_22 {C : Ctx} {K : ES → Prop} (a0 a1 : Bs) (c0 c1 c2 : List Nd) (R : List V) (L k : Int) (n0 : Nat) (M : List V) (t : Bs) (o : Int) (XS : Bs) (XM : List V) (hk : UpE C K ⟨67, (uS R L k n0 M t o), hpC (List.take 2 [a0, a1]) (csC 2 [a0, a1] [c0, c1, c2]) (some (.row 2 [.agg [.str XS, .lst XM]]))⟩) : UpE C K ⟨67, (uS R L k n0 M t o), hpC [a0, a1] [c0, c1, c2] (some (.row 2 [.agg [.str XS, .lst XM]]))⟩ := by
  simpa [csC, treeC] using hk
theorem cl_30 {C : Ctx} {K : ES → Prop} (a0 a1 a2 : Bs) (c0 c1 c2 c3 : List Nd) (R : List V) (L k : Int) (n0 : Nat) (M : List V) (t : Bs) (o : Int) (XS : Bs) (XM : List V) (hk : UpE C K ⟨67, (uS R L k n0 M t o), hpC (List.take 0 [a0, a1, a2]) (csC 0 [a0, a1, a2] [c0, c1, c2, c3]) (some (.row 2 [.agg [.str XS, .lst XM]]))⟩) : UpE C K ⟨67, (uS R L k n0 M t o), hpC [a0, a1, a2] [c0, c1, c2, c3] (some (.row 2 [.agg [.str XS, .lst XM]]))⟩ := by
  have hk' : UpE C K ⟨67, (uS R L k n0 M t o), [some (.row 1 [addV]), some (.row 4 (nodesL (c0 ++ [elN a0 (c1 ++ [elN a1 (c2 ++ [elN a2 (c3)])])]))), some (.row 4 []), some (.row 4 []), some (.row 4 []), some (.row 4 []), some (.row 2 [.agg [.str XS, .lst XM]])]⟩ := by simpa [hpC, rg, rwL, lenF, csC, treeC] using hk
  exact z3 c0 c1 c2 c3 a0 a1 a2 (c1.length + 1) (c2.length + 1) c3.length rfl R L k n0 M t o XS XM (z2 c0 c1 (c2 ++ [elN a2 (c3)]) a0 a1 (c1.length + 1) (c2.length + 1) (by simp) R L k n0 M t o XS XM (z1 c0 (c1 ++ [elN a1 (c2 ++ [elN a2 (c3)])]) a0 (c1.length + 1) (by simp) R L k n0 M t o XS XM hk'))
theorem cl_31 {C : Ctx} {K : ES → Prop} (a0 a1 a2 : Bs) (c0 c1 c2 c3 : List Nd) (R : List V) (L k : Int) (n0 : Nat) (M : List V) (t : Bs) (o : Int) (XS : Bs) (XM : List V) (hk : UpE C K ⟨67, (uS R L k n0 M t o), hpC (List.take 1 [a0, a1, a2]) (csC 1 [a0, a1, a2] [c0, c1, c2, c3]) (some (.row 2 [.agg [.str XS, .lst XM]]))⟩) : UpE C K ⟨67, (uS R L k n0 M t o), hpC [a0, a1, a2] [c0, c1, c2, c3] (some (.row 2 [.agg [.str XS, .lst XM]]))⟩ := by
  have hk' : UpE C K ⟨67, (uS R L k n0 M t o), [some (.row 1 [addV]), some (.row 4 (nodesL c0 ++ [opn a0 2 (c1.length + 1)])), some (.row 4 (nodesL (c1 ++ [elN a1 (c2 ++ [elN a2 (c3)])]))), some (.row 4 []), some (.row 4 []), some (.row 4 []), some (.row 2 [.agg [.str XS, .lst XM]])]⟩ := by simpa [hpC, rg, rwL, lenF, csC, treeC] using hk
  exact z3 c0 c1 c2 c3 a0 a1 a2 (c1.length + 1) (c2.length + 1) c3.length rfl R L k n0 M t o XS XM (z2 c0 c1 (c2 ++ [elN a2 (c3)]) a0 a1 (c1.length + 1) (c2.length + 1) (by simp) R L k n0 M t o XS XM hk')
theorem cl_32 {C : Ctx} {K : ES → Prop} (a0 a1 a2 : Bs) (c0 c1 c2 c3 : List Nd) (R : List V) (L k : Int) (n0 : Nat) (M : List V) (t : Bs) (o : Int) (XS : Bs) (XM : List V) (hk : UpE C K ⟨67, (uS R L k n0 M t o), hpC (List.take 2 [a0, a1, a2]) (csC 2 [a0, a1, a2] [c0, c1, c2, c3]) (some (.row 2 [.agg [.str XS, .lst XM]]))⟩) : UpE C K ⟨67, (uS R L k n0 M t o), hpC [a0, a1, a2] [c0, c1, c2, c3] (some (.row 2 [.agg [.str XS, .lst XM]]))⟩ := by
  have hk' : UpE C K ⟨67, (uS R L k n0 M t o), [some (.row 1 [addV]), some (.row 4 (nodesL c0 ++ [opn a0 2 (c1.length + 1)])), some (.row 4 (nodesL c1 ++ [opn a1 3 (c2.length + 1)])), some (.row 4 (nodesL (c2 ++ [elN a2 (c3)]))), some (.row 4 []), some (.row 4 []), some (.row 2 [.agg [.str XS, .lst XM]])]⟩ := by simpa [hpC, rg, rwL, lenF, csC, treeC] using hk
  exact z3 c0 c1 c2 c3 a0 a1 a2 (c1.length + 1) (c2.length + 1) c3.length rfl R L k n0 M t o XS XM hk'
theorem cl_33 {C : Ctx} {K : ES → Prop} (a0 a1 a2 : Bs) (c0 c1 c2 c3 : List Nd) (R : List V) (L k : Int) (n0 : Nat) (M : List V) (t : Bs) (o : Int) (XS : Bs) (XM : List V) (hk : UpE C K ⟨67, (uS R L k n0 M t o), hpC (List.take 3 [a0, a1, a2]) (csC 3 [a0, a1, a2] [c0, c1, c2, c3]) (some (.row 2 [.agg [.str XS, .lst XM]]))⟩) : UpE C K ⟨67, (uS R L k n0 M t o), hpC [a0, a1, a2] [c0, c1, c2, c3] (some (.row 2 [.agg [.str XS, .lst XM]]))⟩ := by
  simpa [csC, treeC] using hk
theorem cl_40 {C : Ctx} {K : ES → Prop} (a0 a1 a2 a3 : Bs) (c0 c1 c2 c3 c4 : List Nd) (R : List V) (L k : Int) (n0 : Nat) (M : List V) (t : Bs) (o : Int) (XS : Bs) (XM : List V) (hk : UpE C K ⟨67, (uS R L k n0 M t o), hpC (List.take 0 [a0, a1, a2, a3]) (csC 0 [a0, a1, a2, a3] [c0, c1, c2, c3, c4]) (some (.row 2 [.agg [.str XS, .lst XM]]))⟩) : UpE C K ⟨67, (uS R L k n0 M t o), hpC [a0, a1, a2, a3] [c0, c1, c2, c3, c4] (some (.row 2 [.agg [.str XS, .lst XM]]))⟩ := by
  have hk' : UpE C K ⟨67, (uS R L k n0 M t o), [some (.row 1 [addV]), some (.row 4 (nodesL (c0 ++ [elN a0 (c1 ++ [elN a1 (c2 ++ [elN a2 (c3 ++ [elN a3 (c4)])])])]))), some (.row 4 []), some (.row 4 []), some (.row 4 []), some (.row 4 []), some (.row 2 [.agg [.str XS, .lst XM]])]⟩ := by simpa [hpC, rg, rwL, lenF, csC, treeC] using hk
  exact z4 c0 c1 c2 c3 c4 a0 a1 a2 a3 (c1.length + 1) (c2.length + 1) (c3.length + 1) c4.length rfl R L k n0 M t o XS XM (z3 c0 c1 c2 (c3 ++ [elN a3 (c4)]) a0 a1 a2 (c1.length + 1) (c2.length + 1) (c3.length + 1) (by simp) R L k n0 M t o XS XM (z2 c0 c1 (c2 ++ [elN a2 (c3 ++ [elN a3 (c4)])]) a0 a1 (c1.length + 1) (c2.length + 1) (by simp) R L k n0 M t o XS XM (z1 c0 (c1 ++ [elN a1 (c2 ++ [elN a2 (c3 ++ [elN a3 (c4)])])]) a0 (c1.length + 1) (by simp) R L k n0 M t o XS XM hk')))
theorem cl_41 {C : Ctx} {K : ES → Prop} (a0 a1 a2 a3 : Bs) (c0 c1 c2 c3 c4 : List Nd) (R : List V) (L k : Int) (n0 : Nat) (M : List V) (t : Bs) (o : Int) (XS : Bs) (XM : List V) (hk : UpE C K ⟨67, (uS R L k n0 M t o), hpC (List.take 1 [a0, a1, a2, a3]) (csC 1 [a0, a1, a2, a3] [c0, c1, c2, c3, c4]) (some (.row 2 [.agg [.str XS, .lst XM]]))⟩) : UpE C K ⟨67, (uS R L k n0 M t o), hpC [a0, a1, a2, a3] [c0, c1, c2, c3, c4] (some (.row 2 [.agg [.str XS, .lst XM]]))⟩ := by
  have hk' : UpE C K ⟨67, (uS R L k n0 M t o), [some (.row 1 [addV]), some (.row 4 (nodesL c0 ++ [opn a0 2 (c1.length + 1)])), some (.row 4 (nodesL (c1 ++ [elN a1 (c2 ++ [elN a2 (c3 ++ [elN a3 (c4)])])]))), some (.row 4 []), some (.row 4 []), some (.row 4 []), some (.row 2 [.agg [.str XS, .lst XM]])]⟩ := by simpa [hpC, rg, rwL, lenF, csC, treeC] using hk
  exact z4 c0 c1 c2 c3 c4 a0 a1 a2 a3 (c1.length + 1) (c2.length + 1) (c3.length + 1) c4.length rfl R L k n0 M t o XS XM (z3 c0 c1 c2 (c3 ++ [elN a3 (c4)]) a0 a1 a2 (c1.length + 1) (c2.length + 1) (c3.length + 1) (by simp) R L k n0 M t o XS XM (z2 c0 c1 (c2 ++ [elN a2 (c3 ++ [elN a3 (c4)])]) a0 a1 (c1.length + 1) (c2.length + 1) (by simp) R L k n0 M t o XS XM hk'))
theorem cl_42 {C : Ctx} {K : ES → Prop} (a0 a1 a2 a3 : Bs) (c0 c1 c2 c3 c4 : List Nd) (R : List V) (L k : Int) (n0 : Nat) (M : List V) (t : Bs) (o : Int) (XS : Bs) (XM : List V) (hk : UpE C K ⟨67, (uS R L k n0 M t o), hpC (List.take 2 [a0, a1, a2, a3]) (csC 2 [a0, a1, a2, a3] [c0, c1, c2, c3, c4]) (some (.row 2 [.agg [.str XS, .lst XM]]))⟩) : UpE C K ⟨67, (uS R L k n0 M t o), hpC [a0, a1, a2, a3] [c0, c1, c2, c3, c4] (some (.row 2 [.agg [.str XS, .lst XM]]))⟩ := by
  have hk' : UpE C K ⟨67, (uS R L k n0 M t o), [some (.row 1 [addV]), some (.row 4 (nodesL c0 ++ [opn a0 2 (c1.length + 1)])), some (.row 4 (nodesL c1 ++ [opn a1 3 (c2.length + 1)])), some (.row 4 (nodesL (c2 ++ [elN a2 (c3 ++ [elN a3 (c4)])]))), some (.row 4 []), some (.row 4 []), some (.row 2 [.agg [.str XS, .lst XM]])]⟩ := by simpa [hpC, rg, rwL, lenF, csC, treeC] using hk
  exact z4 c0 c1 c2 c3 c4 a0 a1 a2 a3 (c1.length + 1) (c2.length + 1) (c3.length + 1) c4.length rfl R L k n0 M t o XS XM (z3 c0 c1 c2 (c3 ++ [elN a3 (c4)]) a0 a1 a2 (c1.length + 1) (c2.length + 1) (c3.length + 1) (by simp) R L k n0 M t o XS XM hk')
theorem cl_43 {C : Ctx} {K : ES → Prop} (a0 a1 a2 a3 : Bs) (c0 c1 c2 c3 c4 : List Nd) (R : List V) (L k : Int) (n0 : Nat) (M : List V) (t : Bs) (o : Int) (XS : Bs) (XM : List V) (hk : UpE C K ⟨67, (uS R L k n0 M t o), hpC (List.take 3 [a0, a1, a2, a3]) (csC 3 [a0, a1, a2, a3] [c0, c1, c2, c3, c4]) (some (.row 2 [.agg [.str XS, .lst XM]]))⟩) : UpE C K ⟨67, (uS R L k n0 M t o), hpC [a0, a1, a2, a3] [c0, c1, c2, c3, c4] (some (.row 2 [.agg [.str XS, .lst XM]]))⟩ := by
  have hk' : UpE C K ⟨67, (uS R L k n0 M t o), [some (.row 1 [addV]), some (.row 4 (nodesL c0 ++ [opn a0 2 (c1.length + 1)])), some (.row 4 (nodesL c1 ++ [opn a1 3 (c2.length + 1)])), some (.row 4 (nodesL c2 ++ [opn a2 4 (c3.length + 1)])), some (.row 4 (nodesL (c3 ++ [elN a3 (c4)]))), some (.row 4 []), some (.row 2 [.agg [.str XS, .lst XM]])]⟩ := by simpa [hpC, rg, rwL, lenF, csC, treeC] using hk
  exact z4 c0 c1 c2 c3 c4 a0 a1 a2 a3 (c1.length + 1) (c2.length + 1) (c3.length + 1) c4.length rfl R L k n0 M t o XS XM hk'
theorem cl_44 {C : Ctx} {K : ES → Prop} (a0 a1 a2 a3 : Bs) (c0 c1 c2 c3 c4 : List Nd) (R : List V) (L k : Int) (n0 : Nat) (M : List V) (t : Bs) (o : Int) (XS : Bs) (XM : List V) (hk : UpE C K ⟨67, (uS R L k n0 M t o), hpC (List.take 4 [a0, a1, a2, a3]) (csC 4 [a0, a1, a2, a3] [c0, c1, c2, c3, c4]) (some (.row 2 [.agg [.str XS, .lst XM]]))⟩) : UpE C K ⟨67, (uS R L k n0 M t o), hpC [a0, a1, a2, a3] [c0, c1, c2, c3, c4] (some (.row 2 [.agg [.str XS, .lst XM]]))⟩ := by
  simpa [csC, treeC] using hk
theorem shut {C : Ctx} {K : ES → Prop} (last : List Bs) (cs : List (List Nd)) (hl : last.length ≤ 4) (hc : cs.length = last.length + 1) (ol : Nat) (ho : ol ≤ last.length) (R : List V) (L k : Int) (n0 : Nat) (M : List V) (t : Bs) (o : Int) (XS : Bs) (XM : List V) (hk : UpE C K ⟨67, (uS R L k n0 M t o), hpC (last.take ol) (csC ol last cs) (some (.row 2 [.agg [.str XS, .lst XM]]))⟩) : UpE C K ⟨67, (uS R L k n0 M t o), hpC last cs (some (.row 2 [.agg [.str XS, .lst XM]]))⟩ := by
  rcases last with _ | ⟨a0, _ | ⟨a1, _ | ⟨a2, _ | ⟨a3, _ | ⟨a4, r⟩⟩⟩⟩⟩
  · have ho : ol ≤ 0 := ho
    rcases cs with _ | ⟨c0, _ | ⟨c1, _ | ⟨c2, _ | ⟨c3, _ | ⟨c4, cr⟩⟩⟩⟩⟩
    · exfalso; simp only [List.length_nil, List.length_cons] at hc; omega
    · have hcase : ol = 0 := by omega
      rcases hcase with rfl
      · exact cl_00  c0 R L k n0 M t o XS XM hk
    · exfalso; simp only [List.length_nil, List.length_cons] at hc; omega
    · exfalso; simp only [List.length_nil, List.length_cons] at hc; omega
    · exfalso; simp only [List.length_nil, List.length_cons] at hc; omega
    · exfalso; simp only [List.length_nil, List.length_cons] at hc; omega
  · have ho : ol ≤ 1 := ho
    rcases cs with _ | ⟨c0, _ | ⟨c1, _ | ⟨c2, _ | ⟨c3, _ | ⟨c4, cr⟩⟩⟩⟩⟩
    · exfalso; simp only [List.length_nil, List.length_cons] at hc; omega
    · exfalso; simp only [List.length_nil, List.length_cons] at hc; omega
    · have hcase : ol = 0 ∨ ol = 1 := by omega
      rcases hcase with rfl | rfl
      · exact cl_10 a0 c0 c1 R L k n0 M t o XS XM hk
      · exact cl_11 a0 c0 c1 R L k n0 M t o XS XM hk
    · exfalso; simp only [List.length_nil, List.length_cons] at hc; omega
    · exfalso; simp only [List.length_nil, List.length_cons] at hc; omega
    · exfalso; simp only [List.length_nil, List.length_cons] at hc; omega
  · have ho : ol ≤ 2 := ho
    rcases cs with _ | ⟨c0, _ | ⟨c1, _ | ⟨c2, _ | ⟨c3, _ | ⟨c4, cr⟩⟩⟩⟩⟩
    · exfalso; simp only [List.length_nil, List.length_cons] at hc; omega
    · exfalso; simp only [List.length_nil, List.length_cons] at hc; omega
    · exfalso; simp only [List.length_nil, List.length_cons] at hc; omega
    · have hcase : ol = 0 ∨ ol = 1 ∨ ol = 2 := by omega
      rcases hcase with rfl | rfl | rfl
      · exact cl_20 a0 a1 c0 c1 c2 R L k n0 M t o XS XM hk
      · exact cl_21 a0 a1 c0 c1 c2 R L k n0 M t o XS XM hk
      · exact cl_22 a0 a1 c0 c1 c2 R L k n0 M t o XS XM hk
    · exfalso; simp only [List.length_nil, List.length_cons] at hc; omega
    · exfalso; simp only [List.length_nil, List.length_cons] at hc; omega
  · have ho : ol ≤ 3 := ho
    rcases cs with _ | ⟨c0, _ | ⟨c1, _ | ⟨c2, _ | ⟨c3, _ | ⟨c4, cr⟩⟩⟩⟩⟩
    · exfalso; simp only [List.length_nil, List.length_cons] at hc; omega
    · exfalso; simp only [List.length_nil, List.length_cons] at hc; omega
    · exfalso; simp only [List.length_nil, List.length_cons] at hc; omega
    · exfalso; simp only [List.length_nil, List.length_cons] at hc; omega
    · have hcase : ol = 0 ∨ ol = 1 ∨ ol = 2 ∨ ol = 3 := by omega
      rcases hcase with rfl | rfl | rfl | rfl
      · exact cl_30 a0 a1 a2 c0 c1 c2 c3 R L k n0 M t o XS XM hk
      · exact cl_31 a0 a1 a2 c0 c1 c2 c3 R L k n0 M t o XS XM hk
      · exact cl_32 a0 a1 a2 c0 c1 c2 c3 R L k n0 M t o XS XM hk
      · exact cl_33 a0 a1 a2 c0 c1 c2 c3 R L k n0 M t o XS XM hk
    · exfalso; simp only [List.length_nil, List.length_cons] at hc; omega
  · have ho : ol ≤ 4 := ho
    rcases cs with _ | ⟨c0, _ | ⟨c1, _ | ⟨c2, _ | ⟨c3, _ | ⟨c4, cr⟩⟩⟩⟩⟩
    · exfalso; simp only [List.length_nil, List.length_cons] at hc; omega
    · exfalso; simp only [List.length_nil, List.length_cons] at hc; omega
    · exfalso; simp only [List.length_nil, List.length_cons] at hc; omega
    · exfalso; simp only [List.length_nil, List.length_cons] at hc; omega
    · exfalso; simp only [List.length_nil, List.length_cons] at hc; omega
    · obtain rfl : cr = [] := List.eq_nil_of_length_eq_zero (by simp only [List.length_cons, List.length_nil] at hc; omega)
      have hcase : ol = 0 ∨ ol = 1 ∨ ol = 2 ∨ ol = 3 ∨ ol = 4 := by omega
      rcases hcase with rfl | rfl | rfl | rfl | rfl
      · exact cl_40 a0 a1 a2 a3 c0 c1 c2 c3 c4 R L k n0 M t o XS XM hk
      · exact cl_41 a0 a1 a2 a3 c0 c1 c2 c3 c4 R L k n0 M t o XS XM hk
      · exact cl_42 a0 a1 a2 a3 c0 c1 c2 c3 c4 R L k n0 M t o XS XM hk
      · exact cl_43 a0 a1 a2 a3 c0 c1 c2 c3 c4 R L k n0 M t o XS XM hk
      · exact cl_44 a0 a1 a2 a3 c0 c1 c2 c3 c4 R L k n0 M t o XS XM hk
  · exfalso; simp only [List.length_cons] at hl; omega
end Go.Proofs.YtkkcmobnhiiacaaDoor

/-! The document's MarksNest: at its end all is closed. No conditions. -/
namespace Go.Proofs.YtkkcmobnhiiacaaDoor
open Go.RowKit


theorem zr1 {C : Ctx} {K : ES → Prop} (c0 : List Nd) (c1 : List Nd) (a0 : Bs) (e0 : Nat) (he : e0 = c1.length) (n0 : Nat) (hk : UpE C K ⟨67, [(4, .sl 1 0 n0), (5, .int .i64 0)], [some (.row 1 [addV]), some (.row 4 (nodesL (c0 ++ [elN a0 c1]))), some (.row 4 []), some (.row 4 []), some (.row 4 []), some (.row 4 [])]⟩) : UpE C K ⟨67, [(4, .sl 1 0 n0), (5, .int .i64 0)], [some (.row 1 [addV]), some (.row 4 (nodesL c0 ++ [opn a0 2 e0])), some (.row 4 (nodesL c1)), some (.row 4 []), some (.row 4 []), some (.row 4 [])]⟩ := by
  subst he
  refine up_freeze 2 (z := 4) (els := nodesL c1) rfl (nodesL_nr _) (up_new 4 ?_)
  refine up_eq hk (Eq.trans (b := (⟨67, [(4, .sl 1 0 n0), (5, .int .i64 0)], [some (.row 1 [addV]), some (.row 4 (frzL 2 (nodesL c1) (nodesL c0 ++ [opn a0 2 c1.length]))), some (.row 4 []), some (.row 4 []), some (.row 4 []), some (.row 4 [])]⟩ : ES)) ?_ ?_)
  · kernel_rfl
  · rw [frz_hit]
theorem zr2 {C : Ctx} {K : ES → Prop} (c0 : List Nd) (c1 : List Nd) (c2 : List Nd) (a0 : Bs) (a1 : Bs) (e0 : Nat) (e1 : Nat) (he : e1 = c2.length) (n0 : Nat) (hk : UpE C K ⟨67, [(4, .sl 1 0 n0), (5, .int .i64 0)], [some (.row 1 [addV]), some (.row 4 (nodesL c0 ++ [opn a0 2 e0])), some (.row 4 (nodesL (c1 ++ [elN a1 c2]))), some (.row 4 []), some (.row 4 []), some (.row 4 [])]⟩) : UpE C K ⟨67, [(4, .sl 1 0 n0), (5, .int .i64 0)], [some (.row 1 [addV]), some (.row 4 (nodesL c0 ++ [opn a0 2 e0])), some (.row 4 (nodesL c1 ++ [opn a1 3 e1])), some (.row 4 (nodesL c2)), some (.row 4 []), some (.row 4 [])]⟩ := by
  subst he
  refine up_freeze 3 (z := 4) (els := nodesL c2) rfl (nodesL_nr _) (up_new 4 ?_)
  refine up_eq hk (Eq.trans (b := (⟨67, [(4, .sl 1 0 n0), (5, .int .i64 0)], [some (.row 1 [addV]), some (.row 4 (frzL 3 (nodesL c2) (nodesL c0 ++ [opn a0 2 e0]))), some (.row 4 (frzL 3 (nodesL c2) (nodesL c1 ++ [opn a1 3 c2.length]))), some (.row 4 []), some (.row 4 []), some (.row 4 [])]⟩ : ES)) ?_ ?_)
  · kernel_rfl
  · rw [frz_ne _ _ _ _ _ (of_decide_eq_true rfl), frz_hit]
theorem zr3 {C : Ctx} {K : ES → Prop} (c0 : List Nd) (c1 : List Nd) (c2 : List Nd) (c3 : List Nd) (a0 : Bs) (a1 : Bs) (a2 : Bs) (e0 : Nat) (e1 : Nat) (e2 : Nat) (he : e2 = c3.length) (n0 : Nat) (hk : UpE C K ⟨67, [(4, .sl 1 0 n0), (5, .int .i64 0)], [some (.row 1 [addV]), some (.row 4 (nodesL c0 ++ [opn a0 2 e0])), some (.row 4 (nodesL c1 ++ [opn a1 3 e1])), some (.row 4 (nodesL (c2 ++ [elN a2 c3]))), some (.row 4 []), some (.row 4 [])]⟩) : UpE C K ⟨67, [(4, .sl 1 0 n0), (5, .int .i64 0)], [some (.row 1 [addV]), some (.row 4 (nodesL c0 ++ [opn a0 2 e0])), some (.row 4 (nodesL c1 ++ [opn a1 3 e1])), some (.row 4 (nodesL c2 ++ [opn a2 4 e2])), some (.row 4 (nodesL c3)), some (.row 4 [])]⟩ := by
  subst he
  refine up_freeze 4 (z := 4) (els := nodesL c3) rfl (nodesL_nr _) (up_new 4 ?_)
  refine up_eq hk (Eq.trans (b := (⟨67, [(4, .sl 1 0 n0), (5, .int .i64 0)], [some (.row 1 [addV]), some (.row 4 (frzL 4 (nodesL c3) (nodesL c0 ++ [opn a0 2 e0]))), some (.row 4 (frzL 4 (nodesL c3) (nodesL c1 ++ [opn a1 3 e1]))), some (.row 4 (frzL 4 (nodesL c3) (nodesL c2 ++ [opn a2 4 c3.length]))), some (.row 4 []), some (.row 4 [])]⟩ : ES)) ?_ ?_)
  · kernel_rfl
  · rw [frz_ne _ _ _ _ _ (of_decide_eq_true rfl), frz_ne _ _ _ _ _ (of_decide_eq_true rfl), frz_hit]
theorem zr4 {C : Ctx} {K : ES → Prop} (c0 : List Nd) (c1 : List Nd) (c2 : List Nd) (c3 : List Nd) (c4 : List Nd) (a0 : Bs) (a1 : Bs) (a2 : Bs) (a3 : Bs) (e0 : Nat) (e1 : Nat) (e2 : Nat) (e3 : Nat) (he : e3 = c4.length) (n0 : Nat) (hk : UpE C K ⟨67, [(4, .sl 1 0 n0), (5, .int .i64 0)], [some (.row 1 [addV]), some (.row 4 (nodesL c0 ++ [opn a0 2 e0])), some (.row 4 (nodesL c1 ++ [opn a1 3 e1])), some (.row 4 (nodesL c2 ++ [opn a2 4 e2])), some (.row 4 (nodesL (c3 ++ [elN a3 c4]))), some (.row 4 [])]⟩) : UpE C K ⟨67, [(4, .sl 1 0 n0), (5, .int .i64 0)], [some (.row 1 [addV]), some (.row 4 (nodesL c0 ++ [opn a0 2 e0])), some (.row 4 (nodesL c1 ++ [opn a1 3 e1])), some (.row 4 (nodesL c2 ++ [opn a2 4 e2])), some (.row 4 (nodesL c3 ++ [opn a3 5 e3])), some (.row 4 (nodesL c4))]⟩ := by
  subst he
  refine up_freeze 5 (z := 4) (els := nodesL c4) rfl (nodesL_nr _) (up_new 4 ?_)
  refine up_eq hk (Eq.trans (b := (⟨67, [(4, .sl 1 0 n0), (5, .int .i64 0)], [some (.row 1 [addV]), some (.row 4 (frzL 5 (nodesL c4) (nodesL c0 ++ [opn a0 2 e0]))), some (.row 4 (frzL 5 (nodesL c4) (nodesL c1 ++ [opn a1 3 e1]))), some (.row 4 (frzL 5 (nodesL c4) (nodesL c2 ++ [opn a2 4 e2]))), some (.row 4 (frzL 5 (nodesL c4) (nodesL c3 ++ [opn a3 5 c4.length]))), some (.row 4 [])]⟩ : ES)) ?_ ?_)
  · kernel_rfl
  · rw [frz_ne _ _ _ _ _ (of_decide_eq_true rfl), frz_ne _ _ _ _ _ (of_decide_eq_true rfl), frz_ne _ _ _ _ _ (of_decide_eq_true rfl), frz_hit]

def hpR (last : List Bs) (cs : List (List Nd)) : List (Option Ob) := [some (.row 1 [addV]), some (.row 4 (rg last cs 0)), some (.row 4 (rg last cs 1)), some (.row 4 (rg last cs 2)), some (.row 4 (rg last cs 3)), some (.row 4 (rg last cs 4))]
theorem clr_0 {C : Ctx} {K : ES → Prop} (c0 : List Nd) (n0 : Nat) (hk : UpE C K ⟨67, [(4, .sl 1 0 n0), (5, .int .i64 0)], hpR [] [treeC [] [c0]]⟩) : UpE C K ⟨67, [(4, .sl 1 0 n0), (5, .int .i64 0)], hpR [] [c0]⟩ := by
  simpa [treeC] using hk
theorem clr_1 {C : Ctx} {K : ES → Prop} (a0 : Bs) (c0 c1 : List Nd) (n0 : Nat) (hk : UpE C K ⟨67, [(4, .sl 1 0 n0), (5, .int .i64 0)], hpR [] [treeC [a0] [c0, c1]]⟩) : UpE C K ⟨67, [(4, .sl 1 0 n0), (5, .int .i64 0)], hpR [a0] [c0, c1]⟩ := by
  have hk' : UpE C K ⟨67, [(4, .sl 1 0 n0), (5, .int .i64 0)], [some (.row 1 [addV]), some (.row 4 (nodesL (c0 ++ [elN a0 (c1)]))), some (.row 4 []), some (.row 4 []), some (.row 4 []), some (.row 4 [])]⟩ := by simpa [hpR, rg, rwL, lenF, treeC] using hk
  exact zr1 c0 c1 a0 c1.length rfl n0 hk'
theorem clr_2 {C : Ctx} {K : ES → Prop} (a0 a1 : Bs) (c0 c1 c2 : List Nd) (n0 : Nat) (hk : UpE C K ⟨67, [(4, .sl 1 0 n0), (5, .int .i64 0)], hpR [] [treeC [a0, a1] [c0, c1, c2]]⟩) : UpE C K ⟨67, [(4, .sl 1 0 n0), (5, .int .i64 0)], hpR [a0, a1] [c0, c1, c2]⟩ := by
  have hk' : UpE C K ⟨67, [(4, .sl 1 0 n0), (5, .int .i64 0)], [some (.row 1 [addV]), some (.row 4 (nodesL (c0 ++ [elN a0 (c1 ++ [elN a1 (c2)])]))), some (.row 4 []), some (.row 4 []), some (.row 4 []), some (.row 4 [])]⟩ := by simpa [hpR, rg, rwL, lenF, treeC] using hk
  exact zr2 c0 c1 c2 a0 a1 (c1.length + 1) c2.length rfl n0 (zr1 c0 (c1 ++ [elN a1 (c2)]) a0 (c1.length + 1) (by simp) n0 hk')
theorem clr_3 {C : Ctx} {K : ES → Prop} (a0 a1 a2 : Bs) (c0 c1 c2 c3 : List Nd) (n0 : Nat) (hk : UpE C K ⟨67, [(4, .sl 1 0 n0), (5, .int .i64 0)], hpR [] [treeC [a0, a1, a2] [c0, c1, c2, c3]]⟩) : UpE C K ⟨67, [(4, .sl 1 0 n0), (5, .int .i64 0)], hpR [a0, a1, a2] [c0, c1, c2, c3]⟩ := by
  have hk' : UpE C K ⟨67, [(4, .sl 1 0 n0), (5, .int .i64 0)], [some (.row 1 [addV]), some (.row 4 (nodesL (c0 ++ [elN a0 (c1 ++ [elN a1 (c2 ++ [elN a2 (c3)])])]))), some (.row 4 []), some (.row 4 []), some (.row 4 []), some (.row 4 [])]⟩ := by simpa [hpR, rg, rwL, lenF, treeC] using hk
  exact zr3 c0 c1 c2 c3 a0 a1 a2 (c1.length + 1) (c2.length + 1) c3.length rfl n0 (zr2 c0 c1 (c2 ++ [elN a2 (c3)]) a0 a1 (c1.length + 1) (c2.length + 1) (by simp) n0 (zr1 c0 (c1 ++ [elN a1 (c2 ++ [elN a2 (c3)])]) a0 (c1.length + 1) (by simp) n0 hk'))
theorem clr_4 {C : Ctx} {K : ES → Prop} (a0 a1 a2 a3 : Bs) (c0 c1 c2 c3 c4 : List Nd) (n0 : Nat) (hk : UpE C K ⟨67, [(4, .sl 1 0 n0), (5, .int .i64 0)], hpR [] [treeC [a0, a1, a2, a3] [c0, c1, c2, c3, c4]]⟩) : UpE C K ⟨67, [(4, .sl 1 0 n0), (5, .int .i64 0)], hpR [a0, a1, a2, a3] [c0, c1, c2, c3, c4]⟩ := by
  have hk' : UpE C K ⟨67, [(4, .sl 1 0 n0), (5, .int .i64 0)], [some (.row 1 [addV]), some (.row 4 (nodesL (c0 ++ [elN a0 (c1 ++ [elN a1 (c2 ++ [elN a2 (c3 ++ [elN a3 (c4)])])])]))), some (.row 4 []), some (.row 4 []), some (.row 4 []), some (.row 4 [])]⟩ := by simpa [hpR, rg, rwL, lenF, treeC] using hk
  exact zr4 c0 c1 c2 c3 c4 a0 a1 a2 a3 (c1.length + 1) (c2.length + 1) (c3.length + 1) c4.length rfl n0 (zr3 c0 c1 c2 (c3 ++ [elN a3 (c4)]) a0 a1 a2 (c1.length + 1) (c2.length + 1) (c3.length + 1) (by simp) n0 (zr2 c0 c1 (c2 ++ [elN a2 (c3 ++ [elN a3 (c4)])]) a0 a1 (c1.length + 1) (c2.length + 1) (by simp) n0 (zr1 c0 (c1 ++ [elN a1 (c2 ++ [elN a2 (c3 ++ [elN a3 (c4)])])]) a0 (c1.length + 1) (by simp) n0 hk')))
theorem shutR {C : Ctx} {K : ES → Prop} (last : List Bs) (cs : List (List Nd)) (hl : last.length ≤ 4) (hc : cs.length = last.length + 1) (n0 : Nat) (hk : UpE C K ⟨67, [(4, .sl 1 0 n0), (5, .int .i64 0)], hpR [] [treeC last cs]⟩) : UpE C K ⟨67, [(4, .sl 1 0 n0), (5, .int .i64 0)], hpR last cs⟩ := by
  rcases last with _ | ⟨a0, _ | ⟨a1, _ | ⟨a2, _ | ⟨a3, _ | ⟨a4, r⟩⟩⟩⟩⟩
  · rcases cs with _ | ⟨c0, _ | ⟨c1, _ | ⟨c2, _ | ⟨c3, _ | ⟨c4, cr⟩⟩⟩⟩⟩
    · exfalso; simp only [List.length_nil, List.length_cons] at hc; omega
    · exact clr_0  c0 n0 hk
    · exfalso; simp only [List.length_nil, List.length_cons] at hc; omega
    · exfalso; simp only [List.length_nil, List.length_cons] at hc; omega
    · exfalso; simp only [List.length_nil, List.length_cons] at hc; omega
    · exfalso; simp only [List.length_nil, List.length_cons] at hc; omega
  · rcases cs with _ | ⟨c0, _ | ⟨c1, _ | ⟨c2, _ | ⟨c3, _ | ⟨c4, cr⟩⟩⟩⟩⟩
    · exfalso; simp only [List.length_nil, List.length_cons] at hc; omega
    · exfalso; simp only [List.length_nil, List.length_cons] at hc; omega
    · exact clr_1 a0 c0 c1 n0 hk
    · exfalso; simp only [List.length_nil, List.length_cons] at hc; omega
    · exfalso; simp only [List.length_nil, List.length_cons] at hc; omega
    · exfalso; simp only [List.length_nil, List.length_cons] at hc; omega
  · rcases cs with _ | ⟨c0, _ | ⟨c1, _ | ⟨c2, _ | ⟨c3, _ | ⟨c4, cr⟩⟩⟩⟩⟩
    · exfalso; simp only [List.length_nil, List.length_cons] at hc; omega
    · exfalso; simp only [List.length_nil, List.length_cons] at hc; omega
    · exfalso; simp only [List.length_nil, List.length_cons] at hc; omega
    · exact clr_2 a0 a1 c0 c1 c2 n0 hk
    · exfalso; simp only [List.length_nil, List.length_cons] at hc; omega
    · exfalso; simp only [List.length_nil, List.length_cons] at hc; omega
  · rcases cs with _ | ⟨c0, _ | ⟨c1, _ | ⟨c2, _ | ⟨c3, _ | ⟨c4, cr⟩⟩⟩⟩⟩
    · exfalso; simp only [List.length_nil, List.length_cons] at hc; omega
    · exfalso; simp only [List.length_nil, List.length_cons] at hc; omega
    · exfalso; simp only [List.length_nil, List.length_cons] at hc; omega
    · exfalso; simp only [List.length_nil, List.length_cons] at hc; omega
    · exact clr_3 a0 a1 a2 c0 c1 c2 c3 n0 hk
    · exfalso; simp only [List.length_nil, List.length_cons] at hc; omega
  · rcases cs with _ | ⟨c0, _ | ⟨c1, _ | ⟨c2, _ | ⟨c3, _ | ⟨c4, cr⟩⟩⟩⟩⟩
    · exfalso; simp only [List.length_nil, List.length_cons] at hc; omega
    · exfalso; simp only [List.length_nil, List.length_cons] at hc; omega
    · exfalso; simp only [List.length_nil, List.length_cons] at hc; omega
    · exfalso; simp only [List.length_nil, List.length_cons] at hc; omega
    · exfalso; simp only [List.length_nil, List.length_cons] at hc; omega
    · obtain rfl : cr = [] := List.eq_nil_of_length_eq_zero (by simp only [List.length_cons, List.length_nil] at hc; omega)
      exact clr_4 a0 a1 a2 a3 c0 c1 c2 c3 c4 n0 hk
  · exfalso; simp only [List.length_cons] at hl; omega
end Go.Proofs.YtkkcmobnhiiacaaDoor

/-! The document's MarksNest: what its calls of add do to the tree. No conditions. -/
namespace Go.Proofs.YtkkcmobnhiiacaaDoor
open Go.RowKit

theorem csC_len : ∀ (o : Nat) (last : List Bs) (cs : List (List Nd)), o ≤ last.length → cs.length = last.length + 1 → (csC o last cs).length = o + 1
  | 0, last, cs, _, _ => rfl
  | o + 1, [], cs, h, _ => by simp at h
  | o + 1, n :: last, [], _, h => by simp at h
  | o + 1, n :: last, c :: cs, h1, h2 => by
    rw [csC, List.length_cons, csC_len o last cs (by simpa using h1) (by simpa using h2)]
theorem treeC_len : ∀ (last : List Bs) (cs : List (List Nd)), cs.length = last.length + 1 → (treeC last cs).length = lenF last cs
  | [], [], h => by simp at h
  | [], c :: cs, _ => rfl
  | n :: last, [], h => by simp at h
  | n :: last, c :: cs, _ => by simp [treeC, lenF]
theorem lenF_csC : ∀ (o : Nat) (last : List Bs) (cs : List (List Nd)), o ≤ last.length → cs.length = last.length + 1 → lenF (last.take o) (csC o last cs) = lenF last cs
  | 0, last, cs, _, h => by rw [csC]; exact treeC_len last cs h
  | o + 1, [], cs, h, _ => by simp at h
  | o + 1, n :: last, [], _, h => by simp at h
  | o + 1, n :: last, c :: cs, _, _ => rfl
theorem newC_len (t : Bs) : ∀ (ms : List Bs) (c : List Nd), (newC c ms t).length = ms.length + 1
  | [], c => rfl
  | m :: ms, c => by rw [newC, List.length_cons, newC_len t ms]; rfl
theorem stp0_len (t : Bs) : ∀ (o : Nat) (cs : List (List Nd)) (ms : List Bs), o ≤ ms.length → cs.length = o + 1 → (stp0 o cs ms t).length = ms.length + 1
  | 0, [], ms, _, h => by simp at h
  | 0, c :: cs, ms, _, _ => by rw [stp0, newC_len]
  | o + 1, [], ms, _, h => by simp at h
  | o + 1, c :: cs, [], h, _ => by simp at h
  | o + 1, c :: cs, m :: ms, h1, h2 => by rw [stp0, List.length_cons, stp0_len t o cs ms (by simpa using h1) (by simpa using h2)]; rfl
theorem newC_tree (t : Bs) : ∀ (ms : List Bs) (c : List Nd), treeC ms (newC c ms t) = c ++ [mkP ms t]
  | [], c => rfl
  | m :: ms, c => by rw [newC, treeC, newC_tree t ms, mkP]; rfl
theorem stp_tree (t : Bs) : ∀ (o : Nat) (last : List Bs) (cs : List (List Nd)) (ms : List Bs), o ≤ last.length → cs.length = last.length + 1 → o ≤ ms.length → last.take o = ms.take o → treeC ms (stp0 o (csC o last cs) ms t) = addT (treeC last cs) o ms t
  | 0, last, cs, ms, _, _, _, _ => by rw [csC, stp0, newC_tree, addT]
  | o + 1, [], cs, ms, h, _, _, _ => by simp at h
  | o + 1, n :: last, [], ms, _, h, _, _ => by simp at h
  | o + 1, n :: last, c :: cs, [], _, _, h, _ => by simp at h
  | o + 1, n :: last, c :: cs, m :: ms, h1, h2, h3, h4 => by
    simp only [List.take_succ_cons, List.cons.injEq] at h4
    obtain ⟨rfl, h4⟩ := h4
    rw [csC, stp0, treeC, stp_tree t o last cs ms (by simpa using h1) (by simpa using h2) (by simpa using h3) h4, treeC, addT]
    simp [elN, Nd.name, Nd.parts]
theorem csC_bd {B : Nat} : ∀ (o : Nat) (last : List Bs) (cs : List (List Nd)), o ≤ last.length → cs.length = last.length + 1 → (∀ c ∈ cs, c.length ≤ B) → ∀ c ∈ csC o last cs, c.length ≤ B + 1
  | 0, last, cs, _, h, hb => by
    intro c hc
    simp only [csC, List.mem_singleton] at hc
    subst hc
    rw [treeC_len last cs h]
    match last, cs, h with
    | [], [], h => simp at h
    | [], c :: cs, _ => have := hb c (by simp); simp only [lenF]; omega
    | n :: last, [], h => simp at h
    | n :: last, c :: cs, _ => have := hb c (by simp); simp only [lenF]; omega
  | o + 1, [], cs, h, _, _ => by simp at h
  | o + 1, n :: last, [], _, h, _ => by simp at h
  | o + 1, n :: last, c :: cs, h1, h2, hb => by
    intro x hx
    simp only [csC, List.mem_cons] at hx
    rcases hx with rfl | hx
    · have := hb x (by simp); omega
    · exact csC_bd o last cs (by simpa using h1) (by simpa using h2) (fun c hc => hb c (by simp [hc])) x hx
theorem newC_bd {B : Nat} (t : Bs) : ∀ (ms : List Bs) (c : List Nd), c.length ≤ B → ∀ x ∈ newC c ms t, x.length ≤ B + 1
  | [], c, h => by
    intro x hx
    simp only [newC, List.mem_singleton] at hx
    subst hx
    simp; omega
  | m :: ms, c, h => by
    intro x hx
    simp only [newC, List.mem_cons] at hx
    rcases hx with rfl | hx
    · omega
    · exact newC_bd t ms [] (Nat.zero_le _) x hx
theorem stp0_bd {B : Nat} (t : Bs) : ∀ (o : Nat) (cs : List (List Nd)) (ms : List Bs), (∀ c ∈ cs, c.length ≤ B) → ∀ x ∈ stp0 o cs ms t, x.length ≤ B + 1
  | 0, [], ms, _ => by intro x hx; simp [stp0] at hx
  | 0, c :: cs, ms, h => newC_bd t ms c (h c (by simp))
  | o + 1, [], ms, _ => by intro x hx; simp [stp0] at hx
  | o + 1, c :: cs, [], _ => by intro x hx; simp [stp0] at hx
  | o + 1, c :: cs, m :: ms, h => by
    intro x hx
    simp only [stp0, List.mem_cons] at hx
    rcases hx with rfl | hx
    · have := h x (by simp); omega
    · exact stp0_bd t o cs ms (fun c hc => h c (by simp [hc])) x hx
theorem cpL_le : ∀ a b : List Bs, cpL a b ≤ a.length ∧ cpL a b ≤ b.length
  | [], b => by simp [cpL_nil]
  | x :: a, [] => by simp [cpL_nil2]
  | x :: a, y :: b => by
    have := cpL_le a b
    rw [cpL]
    split
    · simp; exact this
    · simp
theorem cpL_take : ∀ a b : List Bs, a.take (cpL a b) = b.take (cpL a b)
  | [], b => by simp [cpL_nil]
  | x :: a, [] => by simp [cpL_nil2]
  | x :: a, y :: b => by
    rw [cpL]
    split
    · rename_i h; subst h; simp [cpL_take a b]
    · simp
theorem cpL_at : ∀ (a b : List Bs) (j : Nat), j < cpL a b → a[j]? = b[j]?
  | [], b, j, h => by rw [cpL_nil] at h; omega
  | x :: a, [], j, h => by rw [cpL_nil2] at h; omega
  | x :: a, y :: b, j, h => by
    rw [cpL] at h
    split at h
    · rename_i e
      subst e
      cases j with
      | zero => rfl
      | succ j => simpa using cpL_at a b j (by omega)
    · omega
theorem cpL_end : ∀ (a b : List Bs) (x y : Bs), a[cpL a b]? = some x → b[cpL a b]? = some y → x ≠ y
  | [], b, x, y, h, _ => by simp at h
  | a0 :: a, [], x, y, _, h => by simp at h
  | a0 :: a, b0 :: b, x, y, h1, h2 => by
    rw [cpL] at h1 h2
    split at h1
    · rename_i e
      rw [if_pos e] at h2
      exact cpL_end a b x y (by simpa using h1) (by simpa using h2)
    · rename_i e
      rw [if_neg e] at h2
      simp at h1 h2
      rw [← h1, ← h2]
      exact e
theorem rwL_kill (id : Nat) : ∀ (last : List Bs) (cs : List (List Nd)) (p : Nat), p + last.length < id → ∀ r ∈ rwL last cs p, killL id r = r
  | [], [], p, _ => by intro r hr; simp [rwL] at hr
  | [], c :: cs, p, _ => by
    intro r hr
    simp only [rwL, List.mem_singleton] at hr
    subst hr
    exact kill_nds id c
  | n :: ns, [], p, _ => by intro r hr; simp [rwL] at hr
  | n :: ns, c :: cs, p, h => by
    intro r hr
    simp only [rwL, List.mem_cons] at hr
    simp only [List.length_cons] at h
    rcases hr with rfl | hr
    · rw [kill_lv]
      congr 2
      simp [opn, V.kill, killL]
      omega
    · exact rwL_kill id ns cs (p + 1) (by omega) r hr
theorem rg_kill (id : Nat) (last : List Bs) (cs : List (List Nd)) (h : last.length ≤ 4) (hid : 5 < id) (i : Nat) : killL id (rg last cs i) = rg last cs i := by
  unfold rg
  rw [List.getD_eq_getElem?_getD]
  cases hr : (rwL last cs 1)[i]? with
  | none => simp [killL]
  | some r => exact rwL_kill id last cs 1 (by omega) r (List.mem_of_getElem? hr)
theorem add_call {C : Ctx} (hC : C.P = Tryd.prog) {K : V → ES → Prop} (last : List Bs) (cs : List (List Nd)) (ms : List Bs) (t : Bs) (o : Nat) (hl : last.length ≤ 4) (hc : cs.length = last.length + 1) (hm : ms.length ≤ 4) (ho : o ≤ last.length) (hom : o ≤ ms.length) (he : last.take o = ms.take o) (hb : ∀ c ∈ cs, c.length ≤ 1048570)
    (R : List V) (L k : Int) (XS : Bs) (XM : List V) (hK : K (.sl 1 0 (lenF ms (stp0 o (csC o last cs) ms t))) ⟨67, uS2 R L k (ms.map V.str) t o, hpC ms (stp0 o (csC o last cs) ms t) (some (.row 2 [.agg [.str XS, .lst XM]]))⟩) :
    CallN C (.tmp 55) [.tmp 56, .tmp 58, .const (.bool true), .tmp 60, .tmp 61] 21 ([.sl 1 0 (lenF last cs), .lst (ms.map V.str), .bool true, .str t, .int .i64 o] ++ [.ptr 0 0 0]) K ⟨67, uS R L k (lenF last cs) (ms.map V.str) t o, hpC last cs (some (.row 2 [.agg [.str XS, .lst XM]]))⟩ := by
  refine call_up (shut last cs hl hc o ho R L k (lenF last cs) (ms.map V.str) t o XS XM (up_here ?_))
  rw [← lenF_csC o last cs ho hc, he]
  have h := add_call0 hC ms o (csC o last cs) t hm hom (csC_len o last cs ho hc) (fun c hx => by have := csC_bd o last cs ho hc hb c hx; omega) R L k XS XM hK
  exact h
end Go.Proofs.YtkkcmobnhiiacaaDoor

/-! marks.Nest; the document's MarksNest; both walked; the law. No conditions. -/
namespace Go.Proofs.YtkkcmobnhiiacaaDoor
open Go.RowKit

theorem refN_or (L : List Bs) (l : List Rn) : (refN L l = .tup [.lst ((normL L l).map rnA), .int .i64 0] ∧ (normL L l).length ≤ 60 ∧ ∀ r ∈ normL L l, r.marks.length ≤ 4) ∨ ∃ c : Int, c ≠ 0 ∧ refN L l = .tup [.lst [], .int .i64 c] := by
  unfold refN
  by_cases hc : marksCode L = 0
  · rw [if_pos hc]
    by_cases h60 : 60 < l.length
    · rw [if_pos h60]; exact .inr ⟨1, by decide, rfl⟩
    · rw [if_neg h60]
      unfold normV
      by_cases hok : l.all (okR L) = true
      · rw [if_pos hok]
        refine .inl ⟨rfl, ?_, ?_⟩
        · have := outN_len L l l.length
          rw [outN_all] at this
          omega
        · have h4 := (marks_good hc).1
          have key : ∀ (x out : List Rn), (∀ r ∈ out, r.marks.length ≤ 4) → ∀ r ∈ x.foldl addR out, (∀ y ∈ x, y.marks.length ≤ 4) → r.marks.length ≤ 4 := by
            intro x
            induction x with
            | nil => intro out ho r hr _; exact ho r hr
            | cons y x ih =>
              intro out ho r hr hy
              refine ih (addR out y) (fun r hr => ?_) r hr (fun z hz => hy z (by simp [hz]))
              rcases rn_last out with rfl | ⟨o, q, rfl⟩
              · rw [addR_nil] at hr
                split at hr
                · cases hr
                · simp at hr; subst hr; exact hy r (by simp)
              · by_cases e : q.marks = y.marks
                · rw [addR_same o q y e] at hr
                  simp only [List.mem_append, List.mem_singleton] at hr
                  rcases hr with hr | rfl
                  · exact ho r (by simp [hr])
                  · exact ho q (by simp)
                · rw [addR_other o q y e] at hr
                  split at hr
                  · exact ho r hr
                  · simp only [List.mem_append, List.mem_singleton] at hr
                    rcases hr with hr | rfl
                    · exact ho r (by simp [hr])
                    · exact hy r (by simp)
          intro r hr
          refine key _ [] (fun r hr => by cases hr) r hr (fun y hy => ?_)
          obtain ⟨z, _, rfl⟩ := List.mem_map.1 hy
          have := keepM_len L z.marks
          simp only [normR]
          omega
      · rw [if_neg hok]; exact .inr ⟨5, by decide, rfl⟩
  · rw [if_neg hc]
    exact .inr ⟨_, hc, rfl⟩
theorem marks_Nest (L : List Bs) (l : List Rn) (hs : sumT l ≤ 1048576) : (∃ c : Int, c ≠ 0 ∧ refN L l = .tup [.lst [], .int .i64 c] ∧ Fn1G Tryd.prog GA 7 [.lst (L.map V.str), .lst (l.map rnA)] (fun r => r = .tup [.lst [], .int .i64 c])) ∨
    (refN L l = .tup [.lst ((normL L l).map rnA), .int .i64 0] ∧ Fn1G Tryd.prog GA 7 [.lst (L.map V.str), .lst (l.map rnA)] (fun r => r = .tup [.lst (nodesL (treeT (prs 0 (normL L l)))), .int .i64 0])) := by
  have hn := marks_Norm L l hs
  rcases refN_or L l with ⟨hr, h60, h4⟩ | ⟨c, hc, hr⟩
  · refine .inr ⟨hr, ?_⟩
    rw [hr] at hn
    have h2 := marks_nest _ (normL L l) 0 (Nat.le_refl _) (by decide) (by omega) (fun r hr => ⟨Nat.zero_le _, h4 r hr⟩)
    refine fn1GE (T := Tryd.tt) Tryd.func7 rfl tt_all follows_all ?_ ?_ fun C hC hW hG hE => ?_
    · kernel_rfl
    · exact Nat.le_of_ble_eq_true (by kernel_rfl)
    conv => whnf
    have hk := hn.c hC hW kept_ga hG
    repeat' (first | (refine brd_t (by first | assumption | omega) ?_; conv => whnf) | (refine brd_f (by first | assumption | omega) ?_; conv => whnf) | (refine ask (by first | assumption | omega) ?_; conv => whnf) | (refine fit64 (by omega) ?_; conv => whnf) | (refine fit (by simp only [kmin, kmax]; omega) ?_; conv => whnf) | (refine br_t (by assumption) ?_; conv => whnf) | (refine br_f (by assumption) ?_; conv => whnf) | (refine get_of (by assumption) ?_; conv => whnf) | (refine get_map (by assumption) ?_; conv => whnf) | (refine callc_eq (hk) hC hasBody_18 rfl ?_ ?_ ?_; kernel_rfl; kernel_rfl; conv => whnf) | (refine callcq_eq (hk) hC hasBody_18 rfl ?_ ?_ ?_; kernel_rfl; kernel_rfl; conv => whnf) | (refine brd_f (fun h => absurd rfl h) ?_; conv => whnf) | (refine call_eq (h2) hC hasBody_19 ?_ ?_ ?_; kernel_rfl; kernel_rfl; conv => whnf) | (refine callq_eq (h2) hC hasBody_19 ?_ ?_ ?_; kernel_rfl; kernel_rfl; conv => whnf) | (refine draw_lex hE ?_ ?_; decide +kernel; conv => whnf) | (refine brd (fun h => ?_) (fun h => ?_) <;> conv => whnf) | (refine br (fun h => ?_) (fun h => ?_) <;> conv => whnf) | (refine ret_now hE ?_; conv => whnf) | (intro hlen; conv => whnf) | (refine seg_here ?_; conv => whnf) | (refine both ?_ ?_ <;> conv => whnf))
    all_goals exact ⟨rfl, rfl⟩
  · refine .inl ⟨c, hc, hr, ?_⟩
    rw [hr] at hn
    refine fn1G_nl ?_
    refine fn1GE (T := Tryd.tt) Tryd.func7 rfl tt_all follows_all ?_ ?_ fun C hC hW hG hE => ?_
    · kernel_rfl
    · exact Nat.le_of_ble_eq_true (by kernel_rfl)
    conv => whnf
    have hk := hn.c hC hW kept_ga hG
    repeat' (first | (refine brd_t (by first | assumption | omega) ?_; conv => whnf) | (refine brd_f (by first | assumption | omega) ?_; conv => whnf) | (refine ask (by first | assumption | omega) ?_; conv => whnf) | (refine fit64 (by omega) ?_; conv => whnf) | (refine fit (by simp only [kmin, kmax]; omega) ?_; conv => whnf) | (refine br_t (by assumption) ?_; conv => whnf) | (refine br_f (by assumption) ?_; conv => whnf) | (refine get_of (by assumption) ?_; conv => whnf) | (refine get_map (by assumption) ?_; conv => whnf) | (refine callc_eq (hk) hC hasBody_18 rfl ?_ ?_ ?_; kernel_rfl; kernel_rfl; conv => whnf) | (refine callcq_eq (hk) hC hasBody_18 rfl ?_ ?_ ?_; kernel_rfl; kernel_rfl; conv => whnf) | (refine draw_lex hE ?_ ?_; decide +kernel; conv => whnf) | (refine brd (fun h => ?_) (fun h => ?_) <;> conv => whnf) | (refine br (fun h => ?_) (fun h => ?_) <;> conv => whnf) | (refine ret_now hE ?_; conv => whnf) | (intro hlen; conv => whnf) | (refine seg_here ?_; conv => whnf) | (refine both ?_ ?_ <;> conv => whnf))
    all_goals exact ⟨rfl, by simp [V.nl, nlL]⟩
end Go.Proofs.YtkkcmobnhiiacaaDoor

/-! The document's MarksNest, walked. No conditions. -/
namespace Go.Proofs.YtkkcmobnhiiacaaDoor
open Go.RowKit

theorem rg0 (i : Nat) : rg [] [[]] i = [] := by
  unfold rg
  cases i with
  | zero => simp [rwL, nodesL]
  | succ i => simp [rwL]
set_option maxHeartbeats 16000000 in
theorem ref_nest (L : List Bs) (l : List Rn) (hs : sumT l ≤ 1048576) (hr : refN L l = .tup [.lst ((normL L l).map rnA), .int .i64 0]) (h60 : (normL L l).length ≤ 60) (h4 : ∀ r ∈ normL L l, r.marks.length ≤ 4) :
    Fn1 Tryd.prog 8 [.lst (L.map V.str), .lst (l.map rnA)] (fun r => r = .tup [.lst (nodesL (treeT (prs 0 (normL L l)))), .int .i64 0]) := by
  have h1 := ref_norm L l hs
  rw [hr] at h1
  generalize normL L l = q at *
  have hqm : (q.map rnA).length = q.length := by simp
  refine fn1E (T := Tryd.tt) Tryd.func8 rfl tt_all follows_all ?_ ?_ fun C hC hE => ?_
  · kernel_rfl
  · exact Nat.le_of_ble_eq_true (by kernel_rfl)
  conv => whnf
  repeat' (first | (refine brd_t (by first | assumption | omega) ?_; conv => whnf) | (refine brd_f (by first | assumption | omega) ?_; conv => whnf) | (refine ask (by first | assumption | omega) ?_; conv => whnf) | (refine fit64 (by omega) ?_; conv => whnf) | (refine fit (by simp only [kmin, kmax]; omega) ?_; conv => whnf) | (refine br_t (by assumption) ?_; conv => whnf) | (refine br_f (by assumption) ?_; conv => whnf) | (refine get_of (by assumption) ?_; conv => whnf) | (refine get_map (by assumption) ?_; conv => whnf) | (refine call_eq (h1) hC hasBody_20 ?_ ?_ ?_; kernel_rfl; kernel_rfl; conv => whnf) | (refine callq_eq (h1) hC hasBody_20 ?_ ?_ ?_; kernel_rfl; kernel_rfl; conv => whnf) | (refine brd_f (fun h => absurd rfl h) ?_; conv => whnf) | (refine draw_lex hE ?_ ?_; decide +kernel; conv => whnf) | (refine draw_any hE [⟨0, [(0, none), (1, none), (2, none), (3, none), (4, none), (5, none), (6, none), (7, none), (8, none), (9, none), (10, none), (11, none), (12, none), (13, none), (14, none), (15, none), (16, none), (17, none), (18, none), (19, none), (20, none), (21, none), (22, none)], none, [], [[]]⟩] ?_ ?_; decide +kernel; conv => whnf) | (refine brd (fun h => ?_) (fun h => ?_) <;> conv => whnf) | (refine br (fun h => ?_) (fun h => ?_) <;> conv => whnf) | (refine ret_now hE ?_; conv => whnf) | (intro hlen; conv => whnf) | (refine seg_here ?_; conv => whnf) | (refine both ?_ ?_ <;> conv => whnf))
  refine loopE (fun ((k, last, cs) : Nat × List Bs × List (List Nd)) => ⟨67, [(8, .ptr 0 0 0), (9, .sl 1 0 (lenF last cs)), (10, .lst (last.map V.str)), (24, .lst (q.map rnA)), (25, .int .i64 (q.map rnA).length), (26, .int .i64 k)], [some (.row 1 [addV]), some (.row 4 (rg last cs 0)), some (.row 4 (rg last cs 1)), some (.row 4 (rg last cs 2)), some (.row 4 (rg last cs 3)), some (.row 4 (rg last cs 4))]⟩)
    (fun (k, last, cs) => k ≤ q.length ∧ last.length ≤ 4 ∧ cs.length = last.length + 1 ∧ (∀ c ∈ cs, c.length ≤ 2 * k) ∧ goT (treeC last cs) last (prs 0 (q.drop k)) = treeT (prs 0 q)) (fun (k, _) => q.length - k) (0, [], [[]]) hE ?_ ?_ ⟨Nat.zero_le _, Nat.zero_le _, rfl, fun c hc => by simp at hc; simp [hc], rfl⟩ ?_
  · kernel_rfl
  · refine up_own 9 4 rfl rfl (up_empty 10 rfl rfl (up_new 4 (up_new 4 (up_new 4 (up_new 4 (at_keep [8, 9, 10, 24, 25, 26] ?_))))))
    simp only [rg0]
    rfl
  rintro ⟨k, last, cs⟩ ⟨hk, hl4, hcs, hcb, hI⟩
  have hlm : (last.map V.str).length = last.length := by simp
  by_cases hlt : k < q.length
  · obtain ⟨x, hx⟩ : ∃ x, q[k]? = some x := ⟨_, List.getElem?_eq_getElem hlt⟩
    have hx4 := h4 x (List.mem_of_getElem? hx)
    obtain ⟨t, ms⟩ := x
    simp only at hx4
    have hmm : (ms.map V.str).length = ms.length := by simp
    obtain ⟨hcl1, hcl2⟩ := cpL_le last ms
    have hx' : (q.map rnA)[k]? = some (.agg [.str t, .lst (ms.map V.str)]) := by rw [List.getElem?_map, hx]; rfl
    conv => whnf
    repeat' (first | (refine brd_t (by first | assumption | omega) ?_; conv => whnf) | (refine brd_f (by first | assumption | omega) ?_; conv => whnf) | (refine ask (by first | assumption | omega) ?_; conv => whnf) | (refine fit64 (by omega) ?_; conv => whnf) | (refine fit (by simp only [kmin, kmax]; omega) ?_; conv => whnf) | (refine br_t (by assumption) ?_; conv => whnf) | (refine br_f (by assumption) ?_; conv => whnf) | (refine get_of (by assumption) ?_; conv => whnf) | (refine get_map (by assumption) ?_; conv => whnf) | (refine draw_lex hE ?_ ?_; decide +kernel; conv => whnf) | (refine draw_any hE [⟨0, [(0, none), (1, none), (2, none), (3, none), (4, none), (5, none), (6, none), (7, none), (8, none), (9, none), (10, none), (11, none), (12, none), (13, none), (14, none), (15, none), (16, none), (17, none), (18, none), (19, none), (20, none), (21, none), (22, none)], none, [], [[]]⟩] ?_ ?_; decide +kernel; conv => whnf) | (refine brd (fun h => ?_) (fun h => ?_) <;> conv => whnf) | (refine br (fun h => ?_) (fun h => ?_) <;> conv => whnf) | (refine ret_now hE ?_; conv => whnf) | (intro hlen; conv => whnf) | (refine seg_here ?_; conv => whnf) | (refine both ?_ ?_ <;> conv => whnf))
    refine loopE (fun j : Nat => ⟨67, [(8, .ptr 0 0 0), (9, .sl 1 0 (lenF last cs)), (10, .lst (last.map V.str)), (12, .ptr 6 0 0), (13, .int .i64 j), (24, .lst (q.map rnA)), (25, .int .i64 (q.map rnA).length), (26, .int .i64 k)], [some (.row 1 [addV]), some (.row 4 (rg last cs 0)), some (.row 4 (rg last cs 1)), some (.row 4 (rg last cs 2)), some (.row 4 (rg last cs 3)), some (.row 4 (rg last cs 4)), some (.row 2 [.agg [.str t, .lst (ms.map V.str)]])]⟩)
      (fun j => j ≤ cpL last ms) (fun j => cpL last ms - j) 0 hE ?_ ?_ (Nat.zero_le _) ?_
    · kernel_rfl
    · exact at_keep [8, 9, 10, 12, 13, 24, 25, 26] rfl
    intro j hj
    have hj : j ≤ cpL last ms := hj
    by_cases hjc : j < cpL last ms
    · obtain ⟨y, hy⟩ : ∃ y, last[j]? = some y := ⟨_, List.getElem?_eq_getElem (by omega)⟩
      have hy2 : ms[j]? = some y := by rw [← cpL_at last ms j hjc]; exact hy
      have hy' : (last.map V.str)[(j : Int).toNat]? = some (.str y) := by rw [Int.toNat_natCast, List.getElem?_map, hy]; rfl
      have hy2' : (ms.map V.str)[(j : Int).toNat]? = some (.str y) := by rw [Int.toNat_natCast, List.getElem?_map, hy2]; rfl
      conv => whnf
      repeat' (first | (refine brd_t (by first | assumption | omega) ?_; conv => whnf) | (refine brd_f (by first | assumption | omega) ?_; conv => whnf) | (refine ask (by first | assumption | omega) ?_; conv => whnf) | (refine fit64 (by omega) ?_; conv => whnf) | (refine fit (by simp only [kmin, kmax]; omega) ?_; conv => whnf) | (refine br_t (by assumption) ?_; conv => whnf) | (refine br_f (by assumption) ?_; conv => whnf) | (refine get_of (by assumption) ?_; conv => whnf) | (refine get_map (by assumption) ?_; conv => whnf) | (refine brd_t rfl ?_; conv => whnf) | (refine draw_lex hE ?_ ?_; decide +kernel; conv => whnf) | (refine draw_any hE [⟨0, [(0, none), (1, none), (2, none), (3, none), (4, none), (5, none), (6, none), (7, none), (8, none), (9, none), (10, none), (11, none), (12, none), (13, none), (14, none), (15, none), (16, none), (17, none), (18, none), (19, none), (20, none), (21, none), (22, none)], none, [], [[]]⟩] ?_ ?_; decide +kernel; conv => whnf) | (refine brd (fun h => ?_) (fun h => ?_) <;> conv => whnf) | (refine br (fun h => ?_) (fun h => ?_) <;> conv => whnf) | (refine ret_now hE ?_; conv => whnf) | (intro hlen; conv => whnf) | (refine seg_here ?_; conv => whnf) | (refine both ?_ ?_ <;> conv => whnf))
      exact next_keep [8, 9, 10, 12, 13, 24, 25, 26] (j + 1) (show j + 1 ≤ cpL last ms by omega) (show cpL last ms - (j + 1) < cpL last ms - j by omega) rfl
    · have hjc : j = cpL last ms := by omega
      subst hjc
      have hI2 : goT (treeC ms (stp0 (cpL last ms) (csC (cpL last ms) last cs) ms t)) ms (prs 0 (q.drop (k + 1))) = treeT (prs 0 q) := by
        rw [stp_tree t _ last cs ms hcl1 hcs hcl2 (cpL_take last ms), ← hI, prs_drop hx]
        rfl
      have hcl := csC_len (cpL last ms) last cs hcl1 hcs
      have hsl := stp0_len t (cpL last ms) (csC (cpL last ms) last cs) ms hcl2 hcl
      have hsb := stp0_bd t (cpL last ms) (csC (cpL last ms) last cs) ms (csC_bd (cpL last ms) last cs hcl1 hcs hcb)
      have hkk := fun i => rg_kill 6 ms (stp0 (cpL last ms) (csC (cpL last ms) last cs) ms t) hx4 (by decide) i
      have htk := cpL_take last ms
      have hcb2 : ∀ c ∈ cs, c.length ≤ 1048570 := fun c hc => by have := hcb c hc; omega
      have hend := cpL_end last ms
      generalize hgo : cpL last ms = o at *
      rcases Nat.lt_or_ge o last.length with hA | hA
      · rcases Nat.lt_or_ge o ms.length with hB | hB
        · obtain ⟨y, hy⟩ : ∃ y, last[o]? = some y := ⟨_, List.getElem?_eq_getElem hA⟩
          obtain ⟨y2, hy2⟩ : ∃ y, ms[o]? = some y := ⟨_, List.getElem?_eq_getElem hB⟩
          have hne := hend y y2 hy hy2
          have hy' : (last.map V.str)[(o : Int).toNat]? = some (.str y) := by rw [Int.toNat_natCast, List.getElem?_map, hy]; rfl
          have hy2' : (ms.map V.str)[(o : Int).toNat]? = some (.str y2) := by rw [Int.toNat_natCast, List.getElem?_map, hy2]; rfl
          conv => whnf
          repeat' (first | (refine brd_t (by first | assumption | omega) ?_; conv => whnf) | (refine brd_f (by first | assumption | omega) ?_; conv => whnf) | (refine ask (by first | assumption | omega) ?_; conv => whnf) | (refine fit64 (by omega) ?_; conv => whnf) | (refine fit (by simp only [kmin, kmax]; omega) ?_; conv => whnf) | (refine br_t (by assumption) ?_; conv => whnf) | (refine br_f (by assumption) ?_; conv => whnf) | (refine get_of (by assumption) ?_; conv => whnf) | (refine get_map (by assumption) ?_; conv => whnf) | (refine call_up (up_at [8, 12, 24, 25, 26, 55, 56, 58, 60, 61] (σ' := ⟨67, uS (q.map rnA) (q.map rnA).length k (lenF last cs) (ms.map V.str) t o, hpC last cs (some (.row 2 [.agg [.str t, .lst (ms.map V.str)]]))⟩) ?_ ?_); kernel_rfl; refine add_call hC last cs ms t o hl4 hcs hx4 hcl1 hcl2 htk hcb2 _ _ _ _ _ ?_; conv => whnf) | (refine draw_lex hE ?_ ?_; decide +kernel; conv => whnf) | (refine draw_any hE [⟨0, [(0, none), (1, none), (2, none), (3, none), (4, none), (5, none), (6, none), (7, none), (8, none), (9, none), (10, none), (11, none), (12, none), (13, none), (14, none), (15, none), (16, none), (17, none), (18, none), (19, none), (20, none), (21, none), (22, none)], none, [], [[]]⟩] ?_ ?_; decide +kernel; conv => whnf) | (refine brd (fun h => ?_) (fun h => ?_) <;> conv => whnf) | (refine br (fun h => ?_) (fun h => ?_) <;> conv => whnf) | (refine ret_now hE ?_; conv => whnf) | (intro hlen; conv => whnf) | (refine seg_here ?_; conv => whnf) | (refine both ?_ ?_ <;> conv => whnf))
          all_goals
            refine next_drop [8, 9, 10, 24, 25, 26] [6] (k + 1, ms, stp0 o (csC o last cs) ms t) ⟨hlt, hx4, hsl, fun c hc => by have := hsb c hc; omega, hI2⟩ (show q.length - (k + 1) < q.length - k by omega) ?_
            conv => whnf
            simp only [hkk]
            rfl
        · have hB2 : o = ms.length := by omega
          conv => whnf
          repeat' (first | (refine brd_t (by first | assumption | omega) ?_; conv => whnf) | (refine brd_f (by first | assumption | omega) ?_; conv => whnf) | (refine ask (by first | assumption | omega) ?_; conv => whnf) | (refine fit64 (by omega) ?_; conv => whnf) | (refine fit (by simp only [kmin, kmax]; omega) ?_; conv => whnf) | (refine br_t (by assumption) ?_; conv => whnf) | (refine br_f (by assumption) ?_; conv => whnf) | (refine get_of (by assumption) ?_; conv => whnf) | (refine get_map (by assumption) ?_; conv => whnf) | (refine call_up (up_at [8, 12, 24, 25, 26, 55, 56, 58, 60, 61] (σ' := ⟨67, uS (q.map rnA) (q.map rnA).length k (lenF last cs) (ms.map V.str) t o, hpC last cs (some (.row 2 [.agg [.str t, .lst (ms.map V.str)]]))⟩) ?_ ?_); kernel_rfl; refine add_call hC last cs ms t o hl4 hcs hx4 hcl1 hcl2 htk hcb2 _ _ _ _ _ ?_; conv => whnf) | (refine draw_lex hE ?_ ?_; decide +kernel; conv => whnf) | (refine draw_any hE [⟨0, [(0, none), (1, none), (2, none), (3, none), (4, none), (5, none), (6, none), (7, none), (8, none), (9, none), (10, none), (11, none), (12, none), (13, none), (14, none), (15, none), (16, none), (17, none), (18, none), (19, none), (20, none), (21, none), (22, none)], none, [], [[]]⟩] ?_ ?_; decide +kernel; conv => whnf) | (refine brd (fun h => ?_) (fun h => ?_) <;> conv => whnf) | (refine br (fun h => ?_) (fun h => ?_) <;> conv => whnf) | (refine ret_now hE ?_; conv => whnf) | (intro hlen; conv => whnf) | (refine seg_here ?_; conv => whnf) | (refine both ?_ ?_ <;> conv => whnf))
          all_goals
            refine next_drop [8, 9, 10, 24, 25, 26] [6] (k + 1, ms, stp0 o (csC o last cs) ms t) ⟨hlt, hx4, hsl, fun c hc => by have := hsb c hc; omega, hI2⟩ (show q.length - (k + 1) < q.length - k by omega) ?_
            conv => whnf
            simp only [hkk]
            rfl
      · have hA2 : o = last.length := by omega
        conv => whnf
        repeat' (first | (refine brd_t (by first | assumption | omega) ?_; conv => whnf) | (refine brd_f (by first | assumption | omega) ?_; conv => whnf) | (refine ask (by first | assumption | omega) ?_; conv => whnf) | (refine fit64 (by omega) ?_; conv => whnf) | (refine fit (by simp only [kmin, kmax]; omega) ?_; conv => whnf) | (refine br_t (by assumption) ?_; conv => whnf) | (refine br_f (by assumption) ?_; conv => whnf) | (refine get_of (by assumption) ?_; conv => whnf) | (refine get_map (by assumption) ?_; conv => whnf) | (refine call_up (up_at [8, 12, 24, 25, 26, 55, 56, 58, 60, 61] (σ' := ⟨67, uS (q.map rnA) (q.map rnA).length k (lenF last cs) (ms.map V.str) t o, hpC last cs (some (.row 2 [.agg [.str t, .lst (ms.map V.str)]]))⟩) ?_ ?_); kernel_rfl; refine add_call hC last cs ms t o hl4 hcs hx4 hcl1 hcl2 htk hcb2 _ _ _ _ _ ?_; conv => whnf) | (refine draw_lex hE ?_ ?_; decide +kernel; conv => whnf) | (refine draw_any hE [⟨0, [(0, none), (1, none), (2, none), (3, none), (4, none), (5, none), (6, none), (7, none), (8, none), (9, none), (10, none), (11, none), (12, none), (13, none), (14, none), (15, none), (16, none), (17, none), (18, none), (19, none), (20, none), (21, none), (22, none)], none, [], [[]]⟩] ?_ ?_; decide +kernel; conv => whnf) | (refine brd (fun h => ?_) (fun h => ?_) <;> conv => whnf) | (refine br (fun h => ?_) (fun h => ?_) <;> conv => whnf) | (refine ret_now hE ?_; conv => whnf) | (intro hlen; conv => whnf) | (refine seg_here ?_; conv => whnf) | (refine both ?_ ?_ <;> conv => whnf))
        all_goals
          refine next_drop [8, 9, 10, 24, 25, 26] [6] (k + 1, ms, stp0 o (csC o last cs) ms t) ⟨hlt, hx4, hsl, fun c hc => by have := hsb c hc; omega, hI2⟩ (show q.length - (k + 1) < q.length - k by omega) ?_
          conv => whnf
          simp only [hkk]
          rfl
  · have hkq : k = q.length := by omega
    rw [List.drop_eq_nil_of_le (by omega)] at hI
    have hI : treeC last cs = treeT (prs 0 q) := hI
    conv => whnf
    repeat' (first | (refine brd_t (by first | assumption | omega) ?_; conv => whnf) | (refine brd_f (by first | assumption | omega) ?_; conv => whnf) | (refine ask (by first | assumption | omega) ?_; conv => whnf) | (refine fit64 (by omega) ?_; conv => whnf) | (refine fit (by simp only [kmin, kmax]; omega) ?_; conv => whnf) | (refine br_t (by assumption) ?_; conv => whnf) | (refine br_f (by assumption) ?_; conv => whnf) | (refine get_of (by assumption) ?_; conv => whnf) | (refine get_map (by assumption) ?_; conv => whnf) | (refine ret_up (up_to' [4, 5] (up_eq (σ' := ⟨67, [(4, .sl 1 0 (lenF last cs)), (5, .int .i64 0)], hpR last cs⟩) (shutR last cs hl4 hcs (lenF last cs) (up_frzK 1 4 [5] (z := 4) (els := nodesL (treeC last cs)) rfl (nodesL_nr _) rfl ?_ rfl (up_here (ret_now hE ?_)))) ?_)); (rw [nodesL_length, treeC_len last cs hcs]); conv => whnf) | (refine draw_lex hE ?_ ?_; decide +kernel; conv => whnf) | (refine draw_any hE [⟨0, [(0, none), (1, none), (2, none), (3, none), (4, none), (5, none), (6, none), (7, none), (8, none), (9, none), (10, none), (11, none), (12, none), (13, none), (14, none), (15, none), (16, none), (17, none), (18, none), (19, none), (20, none), (21, none), (22, none)], none, [], [[]]⟩] ?_ ?_; decide +kernel; conv => whnf) | (refine brd (fun h => ?_) (fun h => ?_) <;> conv => whnf) | (refine br (fun h => ?_) (fun h => ?_) <;> conv => whnf) | (refine ret_now hE ?_; conv => whnf) | (intro hlen; conv => whnf) | (refine seg_here ?_; conv => whnf) | (refine both ?_ ?_ <;> conv => whnf))
    · exact ⟨rfl, by rw [hI]⟩
    · kernel_rfl
theorem marksNests_law (L : List Bs) (l : List Rn) (hs : sumT l ≤ 1048576) : Fn1G Tryd.prog GA 3 [.lst (L.map V.str), .lst (l.map rnA)] (fun r => r = .bool true) := by
  rcases marks_Nest L l hs with ⟨c, hc, hr, h1⟩ | ⟨hr, h1⟩
  · have h2 : Fn1 Tryd.prog 8 [.lst (L.map V.str), .lst (l.map rnA)] (fun r => r = .tup [.lst [], .int .i64 c]) := by
      have h0 := ref_norm L l hs
      rw [hr] at h0
      refine fn1_nl ?_
      refine fn1E (T := Tryd.tt) Tryd.func8 rfl tt_all follows_all ?_ ?_ fun C hC hE => ?_
      · kernel_rfl
      · exact Nat.le_of_ble_eq_true (by kernel_rfl)
      conv => whnf
      repeat' (first | (refine brd_t (by first | assumption | omega) ?_; conv => whnf) | (refine brd_f (by first | assumption | omega) ?_; conv => whnf) | (refine ask (by first | assumption | omega) ?_; conv => whnf) | (refine fit64 (by omega) ?_; conv => whnf) | (refine fit (by simp only [kmin, kmax]; omega) ?_; conv => whnf) | (refine br_t (by assumption) ?_; conv => whnf) | (refine br_f (by assumption) ?_; conv => whnf) | (refine get_of (by assumption) ?_; conv => whnf) | (refine get_map (by assumption) ?_; conv => whnf) | (refine call_eq (h0) hC hasBody_20 ?_ ?_ ?_; kernel_rfl; kernel_rfl; conv => whnf) | (refine callq_eq (h0) hC hasBody_20 ?_ ?_ ?_; kernel_rfl; kernel_rfl; conv => whnf) | (refine draw_lex hE ?_ ?_; decide +kernel; conv => whnf) | (refine draw_any hE [⟨0, [(0, none), (1, none), (2, none), (3, none), (4, none), (5, none), (6, none), (7, none), (8, none), (9, none), (10, none), (11, none), (12, none), (13, none), (14, none), (15, none), (16, none), (17, none), (18, none), (19, none), (20, none), (21, none), (22, none)], none, [], [[]]⟩] ?_ ?_; decide +kernel; conv => whnf) | (refine brd (fun h => ?_) (fun h => ?_) <;> conv => whnf) | (refine br (fun h => ?_) (fun h => ?_) <;> conv => whnf) | (refine ret_now hE ?_; conv => whnf) | (intro hlen; conv => whnf) | (refine seg_here ?_; conv => whnf) | (refine both ?_ ?_ <;> conv => whnf))
      all_goals exact ⟨rfl, by simp [V.nl, nlL]⟩
    have h3 := same_nodes 0 [] (Nat.le_refl _)
    simp only [nodesL] at h3
    refine fn1GE (T := Tryd.tt) Tryd.func3 rfl tt_all follows_all ?_ ?_ fun C hC hW hG hE => ?_
    · kernel_rfl
    · exact Nat.le_of_ble_eq_true (by kernel_rfl)
    conv => whnf
    have hk := h1.c hC hW kept_ga hG
    repeat' (first | (refine brd_t (by first | assumption | omega) ?_; conv => whnf) | (refine brd_f (by first | assumption | omega) ?_; conv => whnf) | (refine ask (by first | assumption | omega) ?_; conv => whnf) | (refine fit64 (by omega) ?_; conv => whnf) | (refine fit (by simp only [kmin, kmax]; omega) ?_; conv => whnf) | (refine br_t (by assumption) ?_; conv => whnf) | (refine br_f (by assumption) ?_; conv => whnf) | (refine get_of (by assumption) ?_; conv => whnf) | (refine get_map (by assumption) ?_; conv => whnf) | (refine callc_eq (hk) hC hasBody_7 rfl ?_ ?_ ?_; kernel_rfl; kernel_rfl; conv => whnf) | (refine callcq_eq (hk) hC hasBody_7 rfl ?_ ?_ ?_; kernel_rfl; kernel_rfl; conv => whnf) | (refine call_eq (h2) hC hasBody_8 ?_ ?_ ?_; kernel_rfl; kernel_rfl; conv => whnf) | (refine callq_eq (h2) hC hasBody_8 ?_ ?_ ?_; kernel_rfl; kernel_rfl; conv => whnf) | (refine call_eq (h3) hC hasBody_9 ?_ ?_ ?_; kernel_rfl; kernel_rfl; conv => whnf) | (refine callq_eq (h3) hC hasBody_9 ?_ ?_ ?_; kernel_rfl; kernel_rfl; conv => whnf) | (refine brd_t rfl ?_; conv => whnf) | (refine draw_lex hE ?_ ?_; decide +kernel; conv => whnf) | (refine brd (fun h => ?_) (fun h => ?_) <;> conv => whnf) | (refine br (fun h => ?_) (fun h => ?_) <;> conv => whnf) | (refine ret_now hE ?_; conv => whnf) | (intro hlen; conv => whnf) | (refine seg_here ?_; conv => whnf) | (refine both ?_ ?_ <;> conv => whnf))
    all_goals exact ⟨rfl, rfl⟩
  · rcases refN_or L l with ⟨_, h60, h4⟩ | ⟨c, hc, hr2⟩
    · have h2 := ref_nest L l hs hr h60 h4
      have h3 := same_nodes _ (treeT (prs 0 (normL L l))) (Nat.le_refl _)
      refine fn1GE (T := Tryd.tt) Tryd.func3 rfl tt_all follows_all ?_ ?_ fun C hC hW hG hE => ?_
      · kernel_rfl
      · exact Nat.le_of_ble_eq_true (by kernel_rfl)
      conv => whnf
      have hk := h1.c hC hW kept_ga hG
      repeat' (first | (refine brd_t (by first | assumption | omega) ?_; conv => whnf) | (refine brd_f (by first | assumption | omega) ?_; conv => whnf) | (refine ask (by first | assumption | omega) ?_; conv => whnf) | (refine fit64 (by omega) ?_; conv => whnf) | (refine fit (by simp only [kmin, kmax]; omega) ?_; conv => whnf) | (refine br_t (by assumption) ?_; conv => whnf) | (refine br_f (by assumption) ?_; conv => whnf) | (refine get_of (by assumption) ?_; conv => whnf) | (refine get_map (by assumption) ?_; conv => whnf) | (refine callc_eq (hk) hC hasBody_7 rfl ?_ ?_ ?_; kernel_rfl; kernel_rfl; conv => whnf) | (refine callcq_eq (hk) hC hasBody_7 rfl ?_ ?_ ?_; kernel_rfl; kernel_rfl; conv => whnf) | (refine call_eq (h2) hC hasBody_8 ?_ ?_ ?_; kernel_rfl; kernel_rfl; conv => whnf) | (refine callq_eq (h2) hC hasBody_8 ?_ ?_ ?_; kernel_rfl; kernel_rfl; conv => whnf) | (refine call_eq (h3) hC hasBody_9 ?_ ?_ ?_; kernel_rfl; kernel_rfl; conv => whnf) | (refine callq_eq (h3) hC hasBody_9 ?_ ?_ ?_; kernel_rfl; kernel_rfl; conv => whnf) | (refine brd_t rfl ?_; conv => whnf) | (refine draw_lex hE ?_ ?_; decide +kernel; conv => whnf) | (refine brd (fun h => ?_) (fun h => ?_) <;> conv => whnf) | (refine br (fun h => ?_) (fun h => ?_) <;> conv => whnf) | (refine ret_now hE ?_; conv => whnf) | (intro hlen; conv => whnf) | (refine seg_here ?_; conv => whnf) | (refine both ?_ ?_ <;> conv => whnf))
      all_goals exact ⟨rfl, rfl⟩
    · rw [hr] at hr2
      simp only [V.tup.injEq, List.cons.injEq, V.int.injEq] at hr2
      exact absurd hr2.2.1.2.symm hc
end Go.Proofs.YtkkcmobnhiiacaaDoor
