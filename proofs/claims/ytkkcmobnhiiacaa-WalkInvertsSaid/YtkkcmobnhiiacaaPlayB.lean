/- walk.change, walked. No conditions. -/
import Derived.Test.YtkkcmobnhiiacaaPlayA
import Derived.Test.YtkkcmobnhiiacaaFresh
set_option linter.unusedSimpArgs false
set_option linter.unusedVariables false
set_option maxRecDepth 100000
namespace Go.Proofs.Ytkkcmobnhiiacaa
open Go.RowKit

theorem nl_ints : ∀ l : List Int, nlL (l.map (V.int .i64)) = l.map (V.int .i64)
  | [] => by simp [nlL]
  | x :: l => by simp only [List.map_cons, nlL, nl_ints l]; rfl
/-- What walk.change answers. -/
def chgV (r : List Nd × Ch × Int) : V := .tup [.lst (nodesL r.1), chA r.2.1, .int .i64 r.2.2]
theorem chgV_bad (c : Ch) : V.tup [.lst [], .agg [.int .i64 c.kind, .lst (c.path.map (V.int .i64)), .str [], .lst [], .str [], .lst []], .int .i64 7] = chgV ([], ⟨c.kind, c.path, nd0⟩, 7) := by
  unfold chgV chA nd0
  simp only [nodesL, nodeA_mk]
  rfl
theorem h_clone_nodes (l : List Nd) (hl : l.length * 80 ≤ 140737488354800) : HFn Try.prog 37 [.lst (nodesL l)] [.row 4 []] [] (fun r o => r = .sl 0 0 l.length ∧ o = [.row 4 (nodesL l)]) := by
  have hlm := nodesL_length l
  have hcl := cells_nodes l
  have hkl : killL 2 (List.take 0 (List.drop 0 []) ++ nodesL l) = nodesL l := by rw [List.drop_nil, List.take_nil, List.nil_append, kill_nrL _ (nodesL_nr l)]
  refine hfnE (T := Try.tt) Try.func37 rfl tt_all follows_all ?_ ?_ fun C vs hC hE => ?_
  · kernel_rfl
  · exact Nat.le_of_ble_eq_true (by kernel_rfl)
  conv => whnf
  repeat' (first | (refine brd_t (by first | assumption | omega) ?_; conv => whnf) | (refine brd_f (by first | assumption | omega) ?_; conv => whnf) | (refine ask (by first | assumption | omega) ?_; conv => whnf) | (refine fit64 (by omega) ?_; conv => whnf) | (refine fit (by simp only [kmin, kmax]; omega) ?_; conv => whnf) | (refine br_t (by assumption) ?_; conv => whnf) | (refine br_f (by assumption) ?_; conv => whnf) | (refine get_of (by assumption) ?_; conv => whnf) | (refine get_map (by assumption) ?_; conv => whnf) | (refine ⟨hcl, ?_⟩; conv => whnf) | (refine draw_lex hE ?_ ?_; decide +kernel; conv => whnf) | (refine brd (fun h => ?_) (fun h => ?_) <;> conv => whnf) | (refine br (fun h => ?_) (fun h => ?_) <;> conv => whnf) | (refine ret_now hE ?_; conv => whnf) | (intro hlen; conv => whnf) | (refine seg_here ?_; conv => whnf) | (refine both ?_ ?_ <;> conv => whnf))
  · have h0 : l = [] := by
      have := hlen (by assumption)
      cases l with
      | nil => rfl
      | cons x r => rw [nodesL] at this; cases this
    subst h0
    refine hret_up (up_own 2 4 rfl rfl (up_drop 0 (up_move 2 0 (by decide) rfl rfl (up_here (hret_now hE ?_)))))
    conv => whnf
    exact ⟨rfl, rfl, rfl, by rw [nodesL]; rfl⟩
  · refine hret_up (up_drop 0 (up_move 2 0 (by decide) rfl rfl (up_here (hret_now hE ?_))))
    conv => whnf
    refine ⟨rfl, rfl, ?_, ?_⟩
    · show V.sl 0 0 (0 + (nodesL l).length) = V.sl 0 0 l.length
      rw [hlm, Nat.zero_add]
    · rw [hkl]
      show [Ob.row 4 (mvL 2 0 (killL 0 (nodesL l)))] = _
      rw [kill_nrL _ (nodesL_nr l), mv_nrL _ _ (nodesL_nr l)]
theorem bad_nl (ck : Int) (cp : List Int) (x : Nd) : (V.tup [V.nils, V.agg [V.int .i64 ck, V.lst (cp.map (V.int .i64)), V.str [], V.nils, V.str [], V.nils], V.int .i64 7]).nl = chgV ([], ⟨ck, cp, nd0⟩, 7) := by
  rw [← chgV_bad ⟨ck, cp, x⟩]
  simp [V.nl, nlL, nl_ints]
set_option maxHeartbeats 8000000 in
theorem walk_change (c : Ch) (hcn : fitN c.node) (hcp : c.path.length * 8 ≤ 140737488351232) (path : List Int) : ∀ l : List Nd, fitL l → Fn1 Try.prog 24 [.lst (nodesL l), chA c, .lst (path.map (V.int .i64))] (fun r => r = chgV (chgT c l path)) := by
  obtain ⟨ck, cp, cx⟩ := c
  obtain ⟨cn, ca, ct, cq⟩ := cx
  have hcl := clone_ints cp hcp
  have hpm : (cp.map (V.int .i64)).length = cp.length := by simp
  induction path with
  | nil =>
    intro l hfl
    have hlm := nodesL_length l
    have hfb := hfl.1
    have hp0 : (([] : List Int).map (V.int .i64)).length = 0 := rfl
    rw [chA_mk]
    refine fn1_nl ?_
    refine fn1E (T := Try.tt) Try.func24 rfl tt_all follows_all ?_ ?_ fun C hC hE => ?_
    · kernel_rfl
    · exact Nat.le_of_ble_eq_true (by kernel_rfl)
    conv => whnf
    repeat' (first | (refine brd_t (by first | assumption | omega) ?_; conv => whnf) | (refine brd_f (by first | assumption | omega) ?_; conv => whnf) | (refine ask (by first | assumption | omega) ?_; conv => whnf) | (refine fit64 (by omega) ?_; conv => whnf) | (refine fit (by simp only [kmin, kmax]; omega) ?_; conv => whnf) | (refine br_t (by assumption) ?_; conv => whnf) | (refine br_f (by assumption) ?_; conv => whnf) | (refine get_of (by assumption) ?_; conv => whnf) | (refine get_map (by assumption) ?_; conv => whnf) | (refine call_eq (hcl) hC hasBody_36 ?_ ?_ ?_; kernel_rfl; kernel_rfl; conv => whnf) | (refine callq_eq (hcl) hC hasBody_36 ?_ ?_ ?_; kernel_rfl; kernel_rfl; conv => whnf) | (refine draw_any hE [⟨1, [(0, none), (1, none), (2, none), (3, none), (4, none), (5, none), (6, some 0)], some 7, [], [[]]⟩] ?_ ?_; decide +kernel; conv => whnf) | (refine draw_any hE [⟨0, [(0, none), (1, none)], some 2, [], [[]]⟩, ⟨0, [(3, none)], none, [], [[]]⟩] ?_ ?_; decide +kernel; conv => whnf) | (refine draw_any hE [⟨1, [(0, none), (1, none), (2, none), (3, none), (4, none), (5, none), (6, none), (7, none), (8, none), (9, none), (10, none), (11, none), (12, none), (13, some 0), (14, none)], some 15, [12], [[], [12]]⟩, ⟨0, [(16, none)], none, [], [[]]⟩] ?_ ?_; decide +kernel; conv => whnf) | (refine draw_any hE [⟨0, [(0, none), (1, none), (2, none), (3, none)], some 4, [2], [[], [2]]⟩, ⟨0, [(5, none)], none, [], [[]]⟩] ?_ ?_; decide +kernel; conv => whnf) | (refine draw_any hE [⟨1, [(0, none), (1, none), (2, none), (3, none), (4, none), (7, none), (5, some 0)], some 6, [7], [[], [7]]⟩, ⟨0, [(8, none)], some 9, [], [[]]⟩, ⟨0, [(10, none)], none, [], [[]]⟩] ?_ ?_; decide +kernel; conv => whnf) | (refine draw_any hE [⟨0, [(0, none), (1, none), (2, none), (3, none), (5, none)], some 4, [5], [[], [5]]⟩, ⟨0, [(6, none)], some 7, [], [[]]⟩, ⟨0, [(8, none)], none, [], [[]]⟩] ?_ ?_; decide +kernel; conv => whnf) | (refine draw_any hE [⟨0, [(0, none), (1, none), (2, none)], some 3, [], [[]]⟩, ⟨0, [(4, none)], none, [], [[]]⟩] ?_ ?_; decide +kernel; conv => whnf) | (refine draw_lex hE ?_ ?_; decide +kernel; conv => whnf) | (refine brd (fun h => ?_) (fun h => ?_) <;> conv => whnf) | (refine br (fun h => ?_) (fun h => ?_) <;> conv => whnf) | (refine ret_now hE ?_; conv => whnf) | (intro hlen; conv => whnf) | (refine seg_here ?_; conv => whnf) | (refine both ?_ ?_ <;> conv => whnf))
    all_goals exact ⟨rfl, by rw [bad_nl ck cp nd0, chgT]⟩
  | cons p ps ih =>
    intro l hfl
    have hlm := nodesL_length l
    have hfb := hfl.1
    have hqm : (ps.map (V.int .i64)).length = ps.length := by simp
    have hlp : ((p :: ps).map (V.int .i64)).length = ps.length + 1 := by simp
    have hp0 : ((p :: ps).map (V.int .i64))[0]? = some (.int .i64 p) := rfl
    rw [chA_mk]
    refine fn1_nl ?_
    by_cases hout : p < 0 ∨ (l.length : Int) + (if ck = 1 ∧ ps = [] then 1 else 0) ≤ p
    · have hres : chgT ⟨ck, cp, .mk cn ca ct cq⟩ l (p :: ps) = ([], ⟨ck, cp, nd0⟩, 7) := by rw [chgT, if_pos hout]
      rw [hres, ← bad_nl ck cp nd0]
      have hps : ps = [] ↔ ps.length = 0 := List.length_eq_zero_iff.symm
      by_cases hc1 : ck = 1 ∧ ps.length = 0
      · rw [if_pos ⟨hc1.1, hps.2 hc1.2⟩] at hout
        obtain ⟨hk1, hp0'⟩ := hc1
        refine fn1E (T := Try.tt) Try.func24 rfl tt_all follows_all ?_ ?_ fun C hC hE => ?_
        · kernel_rfl
        · exact Nat.le_of_ble_eq_true (by kernel_rfl)
        conv => whnf
        repeat' (first | (refine brd_t (by first | assumption | omega) ?_; conv => whnf) | (refine brd_f (by first | assumption | omega) ?_; conv => whnf) | (refine ask (by first | assumption | omega) ?_; conv => whnf) | (refine fit64 (by omega) ?_; conv => whnf) | (refine fit (by simp only [kmin, kmax]; omega) ?_; conv => whnf) | (refine br_t (by assumption) ?_; conv => whnf) | (refine br_f (by assumption) ?_; conv => whnf) | (refine get_of (by assumption) ?_; conv => whnf) | (refine get_map (by assumption) ?_; conv => whnf) | (refine call_eq (hcl) hC hasBody_36 ?_ ?_ ?_; kernel_rfl; kernel_rfl; conv => whnf) | (refine callq_eq (hcl) hC hasBody_36 ?_ ?_ ?_; kernel_rfl; kernel_rfl; conv => whnf) | (refine draw_any hE [⟨1, [(0, none), (1, none), (2, none), (3, none), (4, none), (5, none), (6, some 0)], some 7, [], [[]]⟩] ?_ ?_; decide +kernel; conv => whnf) | (refine draw_any hE [⟨0, [(0, none), (1, none)], some 2, [], [[]]⟩, ⟨0, [(3, none)], none, [], [[]]⟩] ?_ ?_; decide +kernel; conv => whnf) | (refine draw_any hE [⟨1, [(0, none), (1, none), (2, none), (3, none), (4, none), (5, none), (6, none), (7, none), (8, none), (9, none), (10, none), (11, none), (12, none), (13, some 0), (14, none)], some 15, [12], [[], [12]]⟩, ⟨0, [(16, none)], none, [], [[]]⟩] ?_ ?_; decide +kernel; conv => whnf) | (refine draw_any hE [⟨0, [(0, none), (1, none), (2, none), (3, none)], some 4, [2], [[], [2]]⟩, ⟨0, [(5, none)], none, [], [[]]⟩] ?_ ?_; decide +kernel; conv => whnf) | (refine draw_any hE [⟨1, [(0, none), (1, none), (2, none), (3, none), (4, none), (7, none), (5, some 0)], some 6, [7], [[], [7]]⟩, ⟨0, [(8, none)], some 9, [], [[]]⟩, ⟨0, [(10, none)], none, [], [[]]⟩] ?_ ?_; decide +kernel; conv => whnf) | (refine draw_any hE [⟨0, [(0, none), (1, none), (2, none), (3, none), (5, none)], some 4, [5], [[], [5]]⟩, ⟨0, [(6, none)], some 7, [], [[]]⟩, ⟨0, [(8, none)], none, [], [[]]⟩] ?_ ?_; decide +kernel; conv => whnf) | (refine draw_any hE [⟨0, [(0, none), (1, none), (2, none)], some 3, [], [[]]⟩, ⟨0, [(4, none)], none, [], [[]]⟩] ?_ ?_; decide +kernel; conv => whnf) | (refine draw_lex hE ?_ ?_; decide +kernel; conv => whnf) | (refine brd (fun h => ?_) (fun h => ?_) <;> conv => whnf) | (refine br (fun h => ?_) (fun h => ?_) <;> conv => whnf) | (refine ret_now hE ?_; conv => whnf) | (intro hlen; conv => whnf) | (refine seg_here ?_; conv => whnf) | (refine both ?_ ?_ <;> conv => whnf))
        all_goals first | exact ⟨rfl, rfl⟩ | (exfalso; omega) | trace_state
      · rw [if_neg (fun e => hc1 ⟨e.1, hps.1 e.2⟩)] at hout
        refine fn1E (T := Try.tt) Try.func24 rfl tt_all follows_all ?_ ?_ fun C hC hE => ?_
        · kernel_rfl
        · exact Nat.le_of_ble_eq_true (by kernel_rfl)
        conv => whnf
        repeat' (first | (refine brd_t (by first | assumption | omega) ?_; conv => whnf) | (refine brd_f (by first | assumption | omega) ?_; conv => whnf) | (refine ask (by first | assumption | omega) ?_; conv => whnf) | (refine fit64 (by omega) ?_; conv => whnf) | (refine fit (by simp only [kmin, kmax]; omega) ?_; conv => whnf) | (refine br_t (by assumption) ?_; conv => whnf) | (refine br_f (by assumption) ?_; conv => whnf) | (refine get_of (by assumption) ?_; conv => whnf) | (refine get_map (by assumption) ?_; conv => whnf) | (refine call_eq (hcl) hC hasBody_36 ?_ ?_ ?_; kernel_rfl; kernel_rfl; conv => whnf) | (refine callq_eq (hcl) hC hasBody_36 ?_ ?_ ?_; kernel_rfl; kernel_rfl; conv => whnf) | (refine draw_any hE [⟨1, [(0, none), (1, none), (2, none), (3, none), (4, none), (5, none), (6, some 0)], some 7, [], [[]]⟩] ?_ ?_; decide +kernel; conv => whnf) | (refine draw_any hE [⟨0, [(0, none), (1, none)], some 2, [], [[]]⟩, ⟨0, [(3, none)], none, [], [[]]⟩] ?_ ?_; decide +kernel; conv => whnf) | (refine draw_any hE [⟨1, [(0, none), (1, none), (2, none), (3, none), (4, none), (5, none), (6, none), (7, none), (8, none), (9, none), (10, none), (11, none), (12, none), (13, some 0), (14, none)], some 15, [12], [[], [12]]⟩, ⟨0, [(16, none)], none, [], [[]]⟩] ?_ ?_; decide +kernel; conv => whnf) | (refine draw_any hE [⟨0, [(0, none), (1, none), (2, none), (3, none)], some 4, [2], [[], [2]]⟩, ⟨0, [(5, none)], none, [], [[]]⟩] ?_ ?_; decide +kernel; conv => whnf) | (refine draw_any hE [⟨1, [(0, none), (1, none), (2, none), (3, none), (4, none), (7, none), (5, some 0)], some 6, [7], [[], [7]]⟩, ⟨0, [(8, none)], some 9, [], [[]]⟩, ⟨0, [(10, none)], none, [], [[]]⟩] ?_ ?_; decide +kernel; conv => whnf) | (refine draw_any hE [⟨0, [(0, none), (1, none), (2, none), (3, none), (5, none)], some 4, [5], [[], [5]]⟩, ⟨0, [(6, none)], some 7, [], [[]]⟩, ⟨0, [(8, none)], none, [], [[]]⟩] ?_ ?_; decide +kernel; conv => whnf) | (refine draw_any hE [⟨0, [(0, none), (1, none), (2, none)], some 3, [], [[]]⟩, ⟨0, [(4, none)], none, [], [[]]⟩] ?_ ?_; decide +kernel; conv => whnf) | (refine draw_lex hE ?_ ?_; decide +kernel; conv => whnf) | (refine brd (fun h => ?_) (fun h => ?_) <;> conv => whnf) | (refine br (fun h => ?_) (fun h => ?_) <;> conv => whnf) | (refine ret_now hE ?_; conv => whnf) | (intro hlen; conv => whnf) | (refine seg_here ?_; conv => whnf) | (refine both ?_ ?_ <;> conv => whnf))
        all_goals first | exact ⟨rfl, rfl⟩ | (exfalso; omega) | trace_state
    · have hcp2 : p.toNat ≤ l.length := by
        split at hout <;> omega
      have hp00 : 0 ≤ p := by omega
      by_cases hps : ps = []
      · subst hps
        obtain ⟨i, rfl⟩ : ∃ i : Nat, p = (i : Int) := ⟨p.toNat, by omega⟩
        simp only [Int.toNat_natCast] at hcp2
        have hcln := h_clone_nodes l hfb
        have hcx := (copy_copies (szN (.mk cn ca ct cq))).1 (.mk cn ca ct cq) (Nat.le_refl _) hcn
        rw [nodeA_mk] at hcx
        have hq0 : (([] : List Int).map (V.int .i64)).length = 0 := rfl
        have hstep : chgT ⟨ck, cp, .mk cn ca ct cq⟩ l ((i : Int) :: []) = if ck = 1 then (l.take i ++ [.mk cn ca ct cq] ++ l.drop i, ⟨2, cp, nd0⟩, 0)
            else if ck = 2 then (l.take i ++ l.drop (i + 1), ⟨1, cp, l.getD i nd0⟩, 0) else (l.set i (.mk cn ca ct cq), ⟨ck, cp, l.getD i nd0⟩, 0) := by
          rw [chgT, if_neg hout, if_pos rfl]
          rfl
        by_cases hk1 : ck = 1
        · subst hk1
          rw [hstep, if_pos rfl]
          have hins := h_insert (nodesL l) (.agg [.str cn, .lst (ca.map attA), .str ct, .lst (nodesL cq)]) l.length i hlm hcp2 (nodesL_nr l) ⟨⟨trivial, trivial, trivial, trivial, trivial⟩, trivial⟩ rfl (by omega)
          have hres : (nodesL l).take i ++ [.agg [.str cn, .lst (ca.map attA), .str ct, .lst (nodesL cq)]] ++ (nodesL l).drop i = nodesL (l.take i ++ [.mk cn ca ct cq] ++ l.drop i) := by
            simp only [nodesL_map, List.map_append, List.map_take, List.map_drop, List.map_cons, List.map_nil, nodeA_mk]
          rw [hres] at hins
          have hlen3 : l.length + 1 = (nodesL (l.take i ++ [.mk cn ca ct cq] ++ l.drop i)).length := by rw [nodesL_length]; simp; omega
          refine fn1E (T := Try.tt) Try.func24 rfl tt_all follows_all ?_ ?_ fun C hC hE => ?_
          · kernel_rfl
          · exact Nat.le_of_ble_eq_true (by kernel_rfl)
          conv => whnf
          repeat' (first | (refine brd_t (by first | assumption | omega) ?_; conv => whnf) | (refine brd_f (by first | assumption | omega) ?_; conv => whnf) | (refine ask (by first | assumption | omega) ?_; conv => whnf) | (refine fit64 (by omega) ?_; conv => whnf) | (refine fit (by simp only [kmin, kmax]; omega) ?_; conv => whnf) | (refine br_t (by assumption) ?_; conv => whnf) | (refine br_f (by assumption) ?_; conv => whnf) | (refine get_of (by assumption) ?_; conv => whnf) | (refine get_map (by assumption) ?_; conv => whnf) | (refine call_eq (hcl) hC hasBody_36 ?_ ?_ ?_; kernel_rfl; kernel_rfl; conv => whnf) | (refine callq_eq (hcl) hC hasBody_36 ?_ ?_ ?_; kernel_rfl; kernel_rfl; conv => whnf) | (refine call_up (up_new 4 (up_here ?_)); (conv => whnf); refine call_fresh hcln hC hasBody_37 3 rfl ?_ rfl (nodesL_nr _) ?_; exact rnL_self ⟨trivial, trivial⟩; conv => whnf) | (refine call_eq (hcx) hC hasBody_39 ?_ ?_ ?_; kernel_rfl; kernel_rfl; conv => whnf) | (refine callq_eq (hcx) hC hasBody_39 ?_ ?_ ?_; kernel_rfl; kernel_rfl; conv => whnf) | (refine call_up (up_freeze 4 (z := 4) (els := [.agg [.str cn, .lst (ca.map attA), .str ct, .lst (nodesL cq)]]) rfl ⟨⟨trivial, trivial, trivial, trivial, trivial⟩, trivial⟩ (up_here ?_)); conv => whnf) | (refine call_ownR hins hC hasBody_38 3 rfl ?_ rfl (nodesL_nr _) (nodesL_nr _) ?_; exact rnL_self ⟨trivial, trivial, trivial⟩; conv => whnf) | (refine ret_up (up_frzK 3 6 [7, 8] rfl ?_ rfl ?_ rfl (up_here ?_)); (exact nodesL_nr _); (exact hlen3)) | (refine draw_any hE [⟨1, [(0, none), (1, none), (2, none), (3, none), (4, none), (5, none), (6, some 0)], some 7, [], [[]]⟩] ?_ ?_; decide +kernel; conv => whnf) | (refine draw_any hE [⟨0, [(0, none), (1, none)], some 2, [], [[]]⟩, ⟨0, [(3, none)], none, [], [[]]⟩] ?_ ?_; decide +kernel; conv => whnf) | (refine draw_any hE [⟨1, [(0, none), (1, none), (2, none), (3, none), (4, none), (5, none), (6, none), (7, none), (8, none), (9, none), (10, none), (11, none), (12, none), (13, some 0), (14, none)], some 15, [12], [[], [12]]⟩, ⟨0, [(16, none)], none, [], [[]]⟩] ?_ ?_; decide +kernel; conv => whnf) | (refine draw_any hE [⟨0, [(0, none), (1, none), (2, none), (3, none)], some 4, [2], [[], [2]]⟩, ⟨0, [(5, none)], none, [], [[]]⟩] ?_ ?_; decide +kernel; conv => whnf) | (refine draw_any hE [⟨1, [(0, none), (1, none), (2, none), (3, none), (4, none), (7, none), (5, some 0)], some 6, [7], [[], [7]]⟩, ⟨0, [(8, none)], some 9, [], [[]]⟩, ⟨0, [(10, none)], none, [], [[]]⟩] ?_ ?_; decide +kernel; conv => whnf) | (refine draw_any hE [⟨0, [(0, none), (1, none), (2, none), (3, none), (5, none)], some 4, [5], [[], [5]]⟩, ⟨0, [(6, none)], some 7, [], [[]]⟩, ⟨0, [(8, none)], none, [], [[]]⟩] ?_ ?_; decide +kernel; conv => whnf) | (refine draw_any hE [⟨0, [(0, none), (1, none), (2, none)], some 3, [], [[]]⟩, ⟨0, [(4, none)], none, [], [[]]⟩] ?_ ?_; decide +kernel; conv => whnf) | (refine draw_lex hE ?_ ?_; decide +kernel; conv => whnf) | (refine brd (fun h => ?_) (fun h => ?_) <;> conv => whnf) | (refine br (fun h => ?_) (fun h => ?_) <;> conv => whnf) | (refine ret_now hE ?_; conv => whnf) | (intro hlen; conv => whnf) | (refine seg_here ?_; conv => whnf) | (refine both ?_ ?_ <;> conv => whnf))
          all_goals
            refine call_ownR (xs0 := [.int .i64 i, .lst [.agg [.str cn, .lst (ca.map attA), .str ct, .lst (nodesL cq)]]]) hins hC hasBody_38 3 rfl ?_ ?_ (nodesL_nr _) (nodesL_nr _) ?_
            · exact rnL_self ⟨trivial, trivial, trivial⟩
            · show some (some (Ob.row 4 (frzL 4 [.agg [.str cn, .lst (ca.map attA), .str ct, .lst (nodesL cq)]] (nodesL l)))) = _
              rw [frz_nrL _ _ (nodesL_nr l)]
            conv => whnf
            repeat' (first | (refine brd_t (by first | assumption | omega) ?_; conv => whnf) | (refine brd_f (by first | assumption | omega) ?_; conv => whnf) | (refine ask (by first | assumption | omega) ?_; conv => whnf) | (refine fit64 (by omega) ?_; conv => whnf) | (refine fit (by simp only [kmin, kmax]; omega) ?_; conv => whnf) | (refine br_t (by assumption) ?_; conv => whnf) | (refine br_f (by assumption) ?_; conv => whnf) | (refine get_of (by assumption) ?_; conv => whnf) | (refine get_map (by assumption) ?_; conv => whnf) | (refine ret_up (up_frzK 3 6 [7, 8] rfl ?_ rfl ?_ rfl (up_here ?_)); (exact nodesL_nr _); (exact hlen3)) | (refine draw_any hE [⟨1, [(0, none), (1, none), (2, none), (3, none), (4, none), (5, none), (6, some 0)], some 7, [], [[]]⟩] ?_ ?_; decide +kernel; conv => whnf) | (refine draw_any hE [⟨0, [(0, none), (1, none)], some 2, [], [[]]⟩, ⟨0, [(3, none)], none, [], [[]]⟩] ?_ ?_; decide +kernel; conv => whnf) | (refine draw_any hE [⟨1, [(0, none), (1, none), (2, none), (3, none), (4, none), (5, none), (6, none), (7, none), (8, none), (9, none), (10, none), (11, none), (12, none), (13, some 0), (14, none)], some 15, [12], [[], [12]]⟩, ⟨0, [(16, none)], none, [], [[]]⟩] ?_ ?_; decide +kernel; conv => whnf) | (refine draw_any hE [⟨0, [(0, none), (1, none), (2, none), (3, none)], some 4, [2], [[], [2]]⟩, ⟨0, [(5, none)], none, [], [[]]⟩] ?_ ?_; decide +kernel; conv => whnf) | (refine draw_any hE [⟨1, [(0, none), (1, none), (2, none), (3, none), (4, none), (7, none), (5, some 0)], some 6, [7], [[], [7]]⟩, ⟨0, [(8, none)], some 9, [], [[]]⟩, ⟨0, [(10, none)], none, [], [[]]⟩] ?_ ?_; decide +kernel; conv => whnf) | (refine draw_any hE [⟨0, [(0, none), (1, none), (2, none), (3, none), (5, none)], some 4, [5], [[], [5]]⟩, ⟨0, [(6, none)], some 7, [], [[]]⟩, ⟨0, [(8, none)], none, [], [[]]⟩] ?_ ?_; decide +kernel; conv => whnf) | (refine draw_any hE [⟨0, [(0, none), (1, none), (2, none)], some 3, [], [[]]⟩, ⟨0, [(4, none)], none, [], [[]]⟩] ?_ ?_; decide +kernel; conv => whnf) | (refine draw_lex hE ?_ ?_; decide +kernel; conv => whnf) | (refine brd (fun h => ?_) (fun h => ?_) <;> conv => whnf) | (refine br (fun h => ?_) (fun h => ?_) <;> conv => whnf) | (refine ret_now hE ?_; conv => whnf) | (intro hlen; conv => whnf) | (refine seg_here ?_; conv => whnf) | (refine both ?_ ?_ <;> conv => whnf))
            all_goals
              refine ⟨rfl, ?_⟩
              unfold chgV nd0
              simp [V.nl, nlL, nl_atts, nl_nodes, nl_ints, chA_mk, nodesL]
        · by_cases hk2 : ck = 2
          · subst hk2
            rw [hstep, if_neg hk1, if_pos rfl]
            have hlt : i < l.length := by
              rw [if_neg (by rintro ⟨e, _⟩; omega)] at hout
              omega
            obtain ⟨n, a, t, qs, hx, hx'⟩ := node_at hlt
            have hgd : l.getD i nd0 = .mk n a t qs := by rw [List.getD_eq_getElem?_getD, hx]; rfl
            rw [hgd]
            have hfx := fitA_mem hfl.2 (List.mem_of_getElem? hx)
            have hcy := (copy_copies (szN (.mk n a t qs))).1 (.mk n a t qs) (Nat.le_refl _) hfx
            rw [nodeA_mk] at hcy
            have hdel := h_delete (nodesL l) l.length i hlm hlt (nodesL_nr l)
            have hres : (nodesL l).take i ++ (nodesL l).drop (i + 1) = nodesL (l.take i ++ l.drop (i + 1)) := by
              simp only [nodesL_map, List.map_append, List.map_take, List.map_drop]
            rw [hres] at hdel
            have hlen3 : l.length - 1 = (nodesL (l.take i ++ l.drop (i + 1))).length := by rw [nodesL_length]; simp; omega
            refine fn1E (T := Try.tt) Try.func24 rfl tt_all follows_all ?_ ?_ fun C hC hE => ?_
            · kernel_rfl
            · exact Nat.le_of_ble_eq_true (by kernel_rfl)
            conv => whnf
            repeat' (first | (refine brd_t (by first | assumption | omega) ?_; conv => whnf) | (refine brd_f (by first | assumption | omega) ?_; conv => whnf) | (refine ask (by first | assumption | omega) ?_; conv => whnf) | (refine fit64 (by omega) ?_; conv => whnf) | (refine fit (by simp only [kmin, kmax]; omega) ?_; conv => whnf) | (refine br_t (by assumption) ?_; conv => whnf) | (refine br_f (by assumption) ?_; conv => whnf) | (refine get_of (by assumption) ?_; conv => whnf) | (refine get_map (by assumption) ?_; conv => whnf) | (refine call_eq (hcl) hC hasBody_36 ?_ ?_ ?_; kernel_rfl; kernel_rfl; conv => whnf) | (refine callq_eq (hcl) hC hasBody_36 ?_ ?_ ?_; kernel_rfl; kernel_rfl; conv => whnf) | (refine call_up (up_new 4 (up_here ?_)); (conv => whnf); refine call_fresh hcln hC hasBody_37 3 rfl ?_ rfl (nodesL_nr _) ?_; exact rnL_self ⟨trivial, trivial⟩; conv => whnf) | (refine get_of hx' ?_; conv => whnf) | (refine call_eq (hcy) hC hasBody_39 ?_ ?_ ?_; kernel_rfl; kernel_rfl; conv => whnf) | (refine callq_eq (hcy) hC hasBody_39 ?_ ?_ ?_; kernel_rfl; kernel_rfl; conv => whnf) | (refine call_ownR hdel hC hasBody_40 3 rfl ?_ rfl (nodesL_nr _) (nodesL_nr _) ?_; exact rnL_self ⟨trivial, trivial, trivial⟩; conv => whnf) | (refine ret_up (up_frzK 3 6 [7, 8] rfl ?_ rfl ?_ rfl (up_here ?_)); (exact nodesL_nr _); (exact hlen3)) | (refine draw_any hE [⟨1, [(0, none), (1, none), (2, none), (3, none), (4, none), (5, none), (6, some 0)], some 7, [], [[]]⟩] ?_ ?_; decide +kernel; conv => whnf) | (refine draw_any hE [⟨0, [(0, none), (1, none)], some 2, [], [[]]⟩, ⟨0, [(3, none)], none, [], [[]]⟩] ?_ ?_; decide +kernel; conv => whnf) | (refine draw_any hE [⟨1, [(0, none), (1, none), (2, none), (3, none), (4, none), (5, none), (6, none), (7, none), (8, none), (9, none), (10, none), (11, none), (12, none), (13, some 0), (14, none)], some 15, [12], [[], [12]]⟩, ⟨0, [(16, none)], none, [], [[]]⟩] ?_ ?_; decide +kernel; conv => whnf) | (refine draw_any hE [⟨0, [(0, none), (1, none), (2, none), (3, none)], some 4, [2], [[], [2]]⟩, ⟨0, [(5, none)], none, [], [[]]⟩] ?_ ?_; decide +kernel; conv => whnf) | (refine draw_any hE [⟨1, [(0, none), (1, none), (2, none), (3, none), (4, none), (7, none), (5, some 0)], some 6, [7], [[], [7]]⟩, ⟨0, [(8, none)], some 9, [], [[]]⟩, ⟨0, [(10, none)], none, [], [[]]⟩] ?_ ?_; decide +kernel; conv => whnf) | (refine draw_any hE [⟨0, [(0, none), (1, none), (2, none), (3, none), (5, none)], some 4, [5], [[], [5]]⟩, ⟨0, [(6, none)], some 7, [], [[]]⟩, ⟨0, [(8, none)], none, [], [[]]⟩] ?_ ?_; decide +kernel; conv => whnf) | (refine draw_any hE [⟨0, [(0, none), (1, none), (2, none)], some 3, [], [[]]⟩, ⟨0, [(4, none)], none, [], [[]]⟩] ?_ ?_; decide +kernel; conv => whnf) | (refine draw_lex hE ?_ ?_; decide +kernel; conv => whnf) | (refine brd (fun h => ?_) (fun h => ?_) <;> conv => whnf) | (refine br (fun h => ?_) (fun h => ?_) <;> conv => whnf) | (refine ret_now hE ?_; conv => whnf) | (intro hlen; conv => whnf) | (refine seg_here ?_; conv => whnf) | (refine both ?_ ?_ <;> conv => whnf))
            all_goals
              refine ⟨rfl, ?_⟩
              unfold chgV
              simp [V.nl, nlL, nl_atts, nl_nodes, nl_ints, chA_mk]
          · rw [hstep, if_neg hk1, if_neg hk2]
            have hlt : i < l.length := by
              rw [if_neg (by rintro ⟨e, _⟩; exact hk1 e)] at hout
              omega
            obtain ⟨n, a, t, qs, hx, hx'⟩ := node_at hlt
            have hgd : l.getD i nd0 = .mk n a t qs := by rw [List.getD_eq_getElem?_getD, hx]; rfl
            rw [hgd]
            have hfx := fitA_mem hfl.2 (List.mem_of_getElem? hx)
            have hcy := (copy_copies (szN (.mk n a t qs))).1 (.mk n a t qs) (Nat.le_refl _) hfx
            rw [nodeA_mk] at hcy
            have hget2 : (nodesL l)[0 + ((i : Nat) : Int).toNat]? = some (.agg [.str n, .lst (a.map attA), .str t, .lst (nodesL qs)]) := by rw [Nat.zero_add, Int.toNat_natCast]; exact hx'
            have hset : (nodesL l).set (0 + ((i : Nat) : Int).toNat) (.agg [.str cn, .lst (ca.map attA), .str ct, .lst (nodesL cq)]) = nodesL (l.set i (.mk cn ca ct cq)) := by rw [Nat.zero_add, Int.toNat_natCast, ← nodeA_mk, nodesL_map l, nodesL_map (l.set i _), List.map_set]
            refine fn1E (T := Try.tt) Try.func24 rfl tt_all follows_all ?_ ?_ fun C hC hE => ?_
            · kernel_rfl
            · exact Nat.le_of_ble_eq_true (by kernel_rfl)
            conv => whnf
            repeat' (first | (refine brd_t (by first | assumption | omega) ?_; conv => whnf) | (refine brd_f (by first | assumption | omega) ?_; conv => whnf) | (refine ask (by first | assumption | omega) ?_; conv => whnf) | (refine fit64 (by omega) ?_; conv => whnf) | (refine fit (by simp only [kmin, kmax]; omega) ?_; conv => whnf) | (refine br_t (by assumption) ?_; conv => whnf) | (refine br_f (by assumption) ?_; conv => whnf) | (refine get_of (by assumption) ?_; conv => whnf) | (refine get_map (by assumption) ?_; conv => whnf) | (refine call_eq (hcl) hC hasBody_36 ?_ ?_ ?_; kernel_rfl; kernel_rfl; conv => whnf) | (refine callq_eq (hcl) hC hasBody_36 ?_ ?_ ?_; kernel_rfl; kernel_rfl; conv => whnf) | (refine call_up (up_new 4 (up_here ?_)); (conv => whnf); refine call_fresh hcln hC hasBody_37 3 rfl ?_ rfl (nodesL_nr _) ?_; exact rnL_self ⟨trivial, trivial⟩; conv => whnf) | (refine get_of hx' ?_; conv => whnf) | (refine get_of hget2 ?_; conv => whnf) | (refine call_eq (hcy) hC hasBody_39 ?_ ?_ ?_; kernel_rfl; kernel_rfl; conv => whnf) | (refine callq_eq (hcy) hC hasBody_39 ?_ ?_ ?_; kernel_rfl; kernel_rfl; conv => whnf) | (refine call_eq (hcx) hC hasBody_39 ?_ ?_ ?_; kernel_rfl; kernel_rfl; conv => whnf) | (refine callq_eq (hcx) hC hasBody_39 ?_ ?_ ?_; kernel_rfl; kernel_rfl; conv => whnf) | (refine ret_up (up_frzK 3 6 [7, 8] rfl ?_ rfl ?_ rfl (up_here ?_)); (rw [hset]; exact nodesL_nr _); (rw [hset, nodesL_length]; simp)) | (refine draw_any hE [⟨1, [(0, none), (1, none), (2, none), (3, none), (4, none), (5, none), (6, some 0)], some 7, [], [[]]⟩] ?_ ?_; decide +kernel; conv => whnf) | (refine draw_any hE [⟨0, [(0, none), (1, none)], some 2, [], [[]]⟩, ⟨0, [(3, none)], none, [], [[]]⟩] ?_ ?_; decide +kernel; conv => whnf) | (refine draw_any hE [⟨1, [(0, none), (1, none), (2, none), (3, none), (4, none), (5, none), (6, none), (7, none), (8, none), (9, none), (10, none), (11, none), (12, none), (13, some 0), (14, none)], some 15, [12], [[], [12]]⟩, ⟨0, [(16, none)], none, [], [[]]⟩] ?_ ?_; decide +kernel; conv => whnf) | (refine draw_any hE [⟨0, [(0, none), (1, none), (2, none), (3, none)], some 4, [2], [[], [2]]⟩, ⟨0, [(5, none)], none, [], [[]]⟩] ?_ ?_; decide +kernel; conv => whnf) | (refine draw_any hE [⟨1, [(0, none), (1, none), (2, none), (3, none), (4, none), (7, none), (5, some 0)], some 6, [7], [[], [7]]⟩, ⟨0, [(8, none)], some 9, [], [[]]⟩, ⟨0, [(10, none)], none, [], [[]]⟩] ?_ ?_; decide +kernel; conv => whnf) | (refine draw_any hE [⟨0, [(0, none), (1, none), (2, none), (3, none), (5, none)], some 4, [5], [[], [5]]⟩, ⟨0, [(6, none)], some 7, [], [[]]⟩, ⟨0, [(8, none)], none, [], [[]]⟩] ?_ ?_; decide +kernel; conv => whnf) | (refine draw_any hE [⟨0, [(0, none), (1, none), (2, none)], some 3, [], [[]]⟩, ⟨0, [(4, none)], none, [], [[]]⟩] ?_ ?_; decide +kernel; conv => whnf) | (refine draw_lex hE ?_ ?_; decide +kernel; conv => whnf) | (refine brd (fun h => ?_) (fun h => ?_) <;> conv => whnf) | (refine br (fun h => ?_) (fun h => ?_) <;> conv => whnf) | (refine ret_now hE ?_; conv => whnf) | (intro hlen; conv => whnf) | (refine seg_here ?_; conv => whnf) | (refine both ?_ ?_ <;> conv => whnf))
            all_goals
              refine ⟨rfl, ?_⟩
              rw [hset]
              unfold chgV
              simp [V.nl, nlL, nl_atts, nl_nodes, nl_ints, chA_mk]
      · rw [if_neg (fun e => hps e.2)] at hout
        have hpl : 0 < ps.length := List.length_pos_iff.2 hps
        have hlt : p.toNat < l.length := by omega
        obtain ⟨n, a, t, qs, hx, hx'⟩ := node_at hlt
        have hfx := fitN_mk.1 (fitA_mem hfl.2 (List.mem_of_getElem? hx))
        have hstep : chgT ⟨ck, cp, .mk cn ca ct cq⟩ l (p :: ps) = if n = [] then ([], ⟨ck, cp, nd0⟩, 7) else match chgT ⟨ck, cp, .mk cn ca ct cq⟩ qs ps with
            | (q, b, e) => (l.set p.toNat (.mk n a t q), b, e) := by
          rw [chgT, if_neg (by rw [if_neg (fun e => hps e.2)]; exact hout), if_neg hps, hx]
          rfl
        have hcln := h_clone_nodes l hfb
        by_cases hnm : n = []
        · subst hnm
          rw [hstep, if_pos rfl, ← bad_nl ck cp nd0]
          refine fn1E (T := Try.tt) Try.func24 rfl tt_all follows_all ?_ ?_ fun C hC hE => ?_
          · kernel_rfl
          · exact Nat.le_of_ble_eq_true (by kernel_rfl)
          conv => whnf
          repeat' (first | (refine brd_t (by first | assumption | omega) ?_; conv => whnf) | (refine brd_f (by first | assumption | omega) ?_; conv => whnf) | (refine ask (by first | assumption | omega) ?_; conv => whnf) | (refine fit64 (by omega) ?_; conv => whnf) | (refine fit (by simp only [kmin, kmax]; omega) ?_; conv => whnf) | (refine br_t (by assumption) ?_; conv => whnf) | (refine br_f (by assumption) ?_; conv => whnf) | (refine get_of (by assumption) ?_; conv => whnf) | (refine get_map (by assumption) ?_; conv => whnf) | (refine call_eq (hcl) hC hasBody_36 ?_ ?_ ?_; kernel_rfl; kernel_rfl; conv => whnf) | (refine callq_eq (hcl) hC hasBody_36 ?_ ?_ ?_; kernel_rfl; kernel_rfl; conv => whnf) | (refine call_up (up_new 4 (up_here ?_)); (conv => whnf); refine call_fresh hcln hC hasBody_37 3 rfl ?_ rfl (nodesL_nr _) ?_; exact rnL_self ⟨trivial, trivial⟩; conv => whnf) | (refine brd_t rfl ?_; conv => whnf) | (refine draw_any hE [⟨1, [(0, none), (1, none), (2, none), (3, none), (4, none), (5, none), (6, some 0)], some 7, [], [[]]⟩] ?_ ?_; decide +kernel; conv => whnf) | (refine draw_any hE [⟨0, [(0, none), (1, none)], some 2, [], [[]]⟩, ⟨0, [(3, none)], none, [], [[]]⟩] ?_ ?_; decide +kernel; conv => whnf) | (refine draw_any hE [⟨1, [(0, none), (1, none), (2, none), (3, none), (4, none), (5, none), (6, none), (7, none), (8, none), (9, none), (10, none), (11, none), (12, none), (13, some 0), (14, none)], some 15, [12], [[], [12]]⟩, ⟨0, [(16, none)], none, [], [[]]⟩] ?_ ?_; decide +kernel; conv => whnf) | (refine draw_any hE [⟨0, [(0, none), (1, none), (2, none), (3, none)], some 4, [2], [[], [2]]⟩, ⟨0, [(5, none)], none, [], [[]]⟩] ?_ ?_; decide +kernel; conv => whnf) | (refine draw_any hE [⟨1, [(0, none), (1, none), (2, none), (3, none), (4, none), (7, none), (5, some 0)], some 6, [7], [[], [7]]⟩, ⟨0, [(8, none)], some 9, [], [[]]⟩, ⟨0, [(10, none)], none, [], [[]]⟩] ?_ ?_; decide +kernel; conv => whnf) | (refine draw_any hE [⟨0, [(0, none), (1, none), (2, none), (3, none), (5, none)], some 4, [5], [[], [5]]⟩, ⟨0, [(6, none)], some 7, [], [[]]⟩, ⟨0, [(8, none)], none, [], [[]]⟩] ?_ ?_; decide +kernel; conv => whnf) | (refine draw_any hE [⟨0, [(0, none), (1, none), (2, none)], some 3, [], [[]]⟩, ⟨0, [(4, none)], none, [], [[]]⟩] ?_ ?_; decide +kernel; conv => whnf) | (refine draw_lex hE ?_ ?_; decide +kernel; conv => whnf) | (refine brd (fun h => ?_) (fun h => ?_) <;> conv => whnf) | (refine br (fun h => ?_) (fun h => ?_) <;> conv => whnf) | (refine ret_now hE ?_; conv => whnf) | (intro hlen; conv => whnf) | (refine seg_here ?_; conv => whnf) | (refine both ?_ ?_ <;> conv => whnf))
          all_goals first | exact ⟨rfl, rfl⟩ | (exfalso; omega) | trace_state
        · have ih' := ih qs hfx.2
          rw [hstep, if_neg hnm]
          generalize chgT ⟨ck, cp, .mk cn ca ct cq⟩ qs ps = R at *
          obtain ⟨q, b, e⟩ := R
          obtain ⟨bk, bp, bx⟩ := b
          obtain ⟨bn, ba, bt, bq⟩ := bx
          simp only [chgV, chA_mk] at ih' ⊢
          have hset : (nodesL l).set (0 + p.toNat) (.agg [.str n, .lst (a.map attA), .str t, .lst (nodesL q)]) = nodesL (l.set p.toNat (.mk n a t q)) := by rw [Nat.zero_add, ← nodeA_mk, nodesL_map l, nodesL_map (l.set p.toNat _), List.map_set]
          have hget : (nodesL l)[0 + p.toNat]? = some (.agg [.str n, .lst (a.map attA), .str t, .lst (nodesL qs)]) := by rw [Nat.zero_add]; exact hx'
          refine fn1E (T := Try.tt) Try.func24 rfl tt_all follows_all ?_ ?_ fun C hC hE => ?_
          · kernel_rfl
          · exact Nat.le_of_ble_eq_true (by kernel_rfl)
          conv => whnf
          repeat' (first | (refine brd_t (by first | assumption | omega) ?_; conv => whnf) | (refine brd_f (by first | assumption | omega) ?_; conv => whnf) | (refine ask (by first | assumption | omega) ?_; conv => whnf) | (refine fit64 (by omega) ?_; conv => whnf) | (refine fit (by simp only [kmin, kmax]; omega) ?_; conv => whnf) | (refine br_t (by assumption) ?_; conv => whnf) | (refine br_f (by assumption) ?_; conv => whnf) | (refine get_of (by assumption) ?_; conv => whnf) | (refine get_map (by assumption) ?_; conv => whnf) | (refine call_eq (hcl) hC hasBody_36 ?_ ?_ ?_; kernel_rfl; kernel_rfl; conv => whnf) | (refine callq_eq (hcl) hC hasBody_36 ?_ ?_ ?_; kernel_rfl; kernel_rfl; conv => whnf) | (refine call_up (up_new 4 (up_here ?_)); (conv => whnf); refine call_fresh hcln hC hasBody_37 3 rfl ?_ rfl (nodesL_nr _) ?_; exact rnL_self ⟨trivial, trivial⟩; conv => whnf) | (refine get_of hx' ?_; conv => whnf) | (refine get_of hget ?_; conv => whnf) | (refine ⟨cells_ints (p :: ps), ?_⟩; conv => whnf) | (refine callq_as ih' hC hasBody_24 ?_ ?_ ?_ ?_; rfl; kernel_rfl; kernel_rfl; conv => whnf) | (refine ret_up (up_frzK 3 6 [7, 8] rfl ?_ rfl ?_ rfl (up_here ?_)); (rw [hset]; exact nodesL_nr _); (rw [hset, nodesL_length]; simp)) | (refine draw_any hE [⟨1, [(0, none), (1, none), (2, none), (3, none), (4, none), (5, none), (6, some 0)], some 7, [], [[]]⟩] ?_ ?_; decide +kernel; conv => whnf) | (refine draw_any hE [⟨0, [(0, none), (1, none)], some 2, [], [[]]⟩, ⟨0, [(3, none)], none, [], [[]]⟩] ?_ ?_; decide +kernel; conv => whnf) | (refine draw_any hE [⟨1, [(0, none), (1, none), (2, none), (3, none), (4, none), (5, none), (6, none), (7, none), (8, none), (9, none), (10, none), (11, none), (12, none), (13, some 0), (14, none)], some 15, [12], [[], [12]]⟩, ⟨0, [(16, none)], none, [], [[]]⟩] ?_ ?_; decide +kernel; conv => whnf) | (refine draw_any hE [⟨0, [(0, none), (1, none), (2, none), (3, none)], some 4, [2], [[], [2]]⟩, ⟨0, [(5, none)], none, [], [[]]⟩] ?_ ?_; decide +kernel; conv => whnf) | (refine draw_any hE [⟨1, [(0, none), (1, none), (2, none), (3, none), (4, none), (7, none), (5, some 0)], some 6, [7], [[], [7]]⟩, ⟨0, [(8, none)], some 9, [], [[]]⟩, ⟨0, [(10, none)], none, [], [[]]⟩] ?_ ?_; decide +kernel; conv => whnf) | (refine draw_any hE [⟨0, [(0, none), (1, none), (2, none), (3, none), (5, none)], some 4, [5], [[], [5]]⟩, ⟨0, [(6, none)], some 7, [], [[]]⟩, ⟨0, [(8, none)], none, [], [[]]⟩] ?_ ?_; decide +kernel; conv => whnf) | (refine draw_any hE [⟨0, [(0, none), (1, none), (2, none)], some 3, [], [[]]⟩, ⟨0, [(4, none)], none, [], [[]]⟩] ?_ ?_; decide +kernel; conv => whnf) | (refine draw_lex hE ?_ ?_; decide +kernel; conv => whnf) | (refine brd (fun h => ?_) (fun h => ?_) <;> conv => whnf) | (refine br (fun h => ?_) (fun h => ?_) <;> conv => whnf) | (refine ret_now hE ?_; conv => whnf) | (intro hlen; conv => whnf) | (refine seg_here ?_; conv => whnf) | (refine both ?_ ?_ <;> conv => whnf))
          all_goals
            refine ⟨rfl, ?_⟩
            rw [hset]
            simp [V.nl, nlL, nl_atts, nl_nodes, nl_ints]
end Go.Proofs.Ytkkcmobnhiiacaa
