/- The law WalkInverts. No conditions. (Not built: InvS, same_changes, is lacking.) -/
import Derived.Test.YtkkcmobnhiiacaaPlayF
/-! walk.play, whose undoing changes stay the caller's own. No conditions. -/
set_option linter.unusedSimpArgs false
set_option linter.unusedVariables false
set_option maxRecDepth 100000
namespace Go.Proofs.Ytkkcmobnhiiacaa
open Go.RowKit

def playO (x : Except Int (List Nd × List Ch)) (r : V) (o : List Ob) : Prop := match x with
  | .ok (l, bs) => r = .tup [.lst (nodesL l), .sl 0 0 bs.length, .int .i64 0] ∧ o = [.row 6 (bs.map chA)]
  | .error e => r = .tup [.nils, .nils, .int .i64 e] ∧ o = [.row 6 []]
set_option maxHeartbeats 8000000 in
theorem h_play (l : List Nd) (hl : gL 0 l) (cs : List Ch) (hc : ∀ c ∈ cs, gN 0 c.node ∧ c.path.length * 8 ≤ 140737488351232) : HFn Try.prog 10 [.lst (nodesL l), .lst (cs.map chA)] [.row 6 []] [] (playO (playR l cs)) := by
  have hcm : (cs.map chA).length = cs.length := by simp
  by_cases h40 : 40 < cs.length
  · rw [show playR l cs = .error 1 from if_pos h40]
    refine hfnE (T := Try.tt) Try.func10 rfl tt_all follows_all ?_ ?_ fun C vs hC hE => ?_
    · kernel_rfl
    · exact Nat.le_of_ble_eq_true (by kernel_rfl)
    conv => whnf
    repeat' (first | (refine brd_t (by first | assumption | omega) ?_; conv => whnf) | (refine brd_f (by first | assumption | omega) ?_; conv => whnf) | (refine ask (by first | assumption | omega) ?_; conv => whnf) | (refine fit64 (by omega) ?_; conv => whnf) | (refine fit (by simp only [kmin, kmax]; omega) ?_; conv => whnf) | (refine br_t (by assumption) ?_; conv => whnf) | (refine br_f (by assumption) ?_; conv => whnf) | (refine get_of (by assumption) ?_; conv => whnf) | (refine get_map (by assumption) ?_; conv => whnf) | (refine draw_lex hE ?_ ?_; decide +kernel; conv => whnf) | (refine brd (fun h => ?_) (fun h => ?_) <;> conv => whnf) | (refine br (fun h => ?_) (fun h => ?_) <;> conv => whnf) | (refine ret_now hE ?_; conv => whnf) | (intro hlen; conv => whnf) | (refine seg_here ?_; conv => whnf) | (refine both ?_ ?_ <;> conv => whnf))
    all_goals (refine hret_up (up_drops [2, 3, 4, 5, 6] (up_trimE (up_here (hret_now hE ?_)))); (conv => whnf); exact ⟨rfl, rfl, rfl, rfl⟩)
  · rw [show playR l cs = playA l [] cs from if_neg h40]
    refine hfnE (T := Try.tt) Try.func10 rfl tt_all follows_all ?_ ?_ fun C vs hC hE => ?_
    · kernel_rfl
    · exact Nat.le_of_ble_eq_true (by kernel_rfl)
    conv => whnf
    repeat' (first | (refine brd_t (by first | assumption | omega) ?_; conv => whnf) | (refine brd_f (by first | assumption | omega) ?_; conv => whnf) | (refine ask (by first | assumption | omega) ?_; conv => whnf) | (refine fit64 (by omega) ?_; conv => whnf) | (refine fit (by simp only [kmin, kmax]; omega) ?_; conv => whnf) | (refine br_t (by assumption) ?_; conv => whnf) | (refine br_f (by assumption) ?_; conv => whnf) | (refine get_of (by assumption) ?_; conv => whnf) | (refine get_map (by assumption) ?_; conv => whnf) | (refine draw_lex hE ?_ ?_; decide +kernel; conv => whnf) | (refine brd (fun h => ?_) (fun h => ?_) <;> conv => whnf) | (refine br (fun h => ?_) (fun h => ?_) <;> conv => whnf) | (refine ret_now hE ?_; conv => whnf) | (intro hlen; conv => whnf) | (refine seg_here ?_; conv => whnf) | (refine both ?_ ?_ <;> conv => whnf))
    refine loopE (fun ((k, cur, bs) : Nat × List Nd × List Ch) => ⟨62, [(0, .lst (nodesL cur)), (7, .sl 2 0 bs.length), (16, .lst (cs.map chA)), (17, .int .i64 (cs.map chA).length), (18, .int .i64 k)], [some (.row 6 []), some (.hid vs [.lst (nodesL l), .lst (cs.map chA)]), some (.row 6 (bs.map chA))]⟩)
      (fun (k, cur, bs) => k ≤ cs.length ∧ bs.length = k ∧ gL k cur ∧ playA l [] cs = playA cur bs (cs.drop k)) (fun (k, _) => cs.length - k) (0, l, []) hE ?_ ?_ ⟨Nat.zero_le _, rfl, hl, by rw [List.drop_zero]⟩ ?_
    · kernel_rfl
    · exact up_own 7 6 rfl rfl (at_keep [0, 7, 16, 17, 18] rfl)
    rintro ⟨k, cur, bs⟩ ⟨hk, hbl, hg, hI⟩
    have hk : k ≤ cs.length := hk
    have hbl : bs.length = k := hbl
    have hg : gL k cur := hg
    have hI : playA l [] cs = playA cur bs (cs.drop k) := hI
    have hbm : (bs.map chA).length = bs.length := by simp
    by_cases hlt : k < cs.length
    · obtain ⟨kd, p, n, a, t, ps, hx, hx'⟩ := chs_at hlt
      have hcx := hc _ (List.mem_of_getElem? hx)
      have hfn : fitN (.mk n a t ps) := gN_fit (by omega) _ hcx.1
      have hst := playA_step hx cur bs
      have hem := walk_empty (.mk n a t ps) hfn
      rw [nodeA_mk] at hem
      have hch := walk_change ⟨kd, p, .mk n a t ps⟩ hfn hcx.2 p cur (gL_fit (by omega) hg)
      rw [chA_mk] at hch
      by_cases hk3 : kd < 1 ∨ 3 < kd
      · rw [hI, hst, if_pos hk3]
        conv => whnf
        repeat' (first | (refine brd_t (by first | assumption | omega) ?_; conv => whnf) | (refine brd_f (by first | assumption | omega) ?_; conv => whnf) | (refine ask (by first | assumption | omega) ?_; conv => whnf) | (refine fit64 (by omega) ?_; conv => whnf) | (refine fit (by simp only [kmin, kmax]; omega) ?_; conv => whnf) | (refine br_t (by assumption) ?_; conv => whnf) | (refine br_f (by assumption) ?_; conv => whnf) | (refine get_of (by assumption) ?_; conv => whnf) | (refine get_map (by assumption) ?_; conv => whnf) | (refine draw_lex hE ?_ ?_; decide +kernel; conv => whnf) | (refine brd (fun h => ?_) (fun h => ?_) <;> conv => whnf) | (refine br (fun h => ?_) (fun h => ?_) <;> conv => whnf) | (refine ret_now hE ?_; conv => whnf) | (intro hlen; conv => whnf) | (refine seg_here ?_; conv => whnf) | (refine both ?_ ?_ <;> conv => whnf))
        all_goals (refine hret_up (up_drops [2, 3, 4, 5, 6] (up_trimE (up_here (hret_now hE ?_)))); (conv => whnf); exact ⟨rfl, rfl, rfl, rfl⟩)
      · simp only at hst
        rw [if_neg hk3] at hst
        by_cases hk4 : kd = 2 ∧ emptyN (.mk n a t ps) = false
        · rw [if_pos hk4] at hst
          rw [hI, hst]
          obtain ⟨rfl, hem2⟩ := hk4
          rw [hem2] at hem
          conv => whnf
          repeat' (first | (refine brd_t (by first | assumption | omega) ?_; conv => whnf) | (refine brd_f (by first | assumption | omega) ?_; conv => whnf) | (refine ask (by first | assumption | omega) ?_; conv => whnf) | (refine fit64 (by omega) ?_; conv => whnf) | (refine fit (by simp only [kmin, kmax]; omega) ?_; conv => whnf) | (refine br_t (by assumption) ?_; conv => whnf) | (refine br_f (by assumption) ?_; conv => whnf) | (refine get_of (by assumption) ?_; conv => whnf) | (refine get_map (by assumption) ?_; conv => whnf) | (refine call_eq (hem) hC hasBody_23 ?_ ?_ ?_; kernel_rfl; kernel_rfl; conv => whnf) | (refine callq_eq (hem) hC hasBody_23 ?_ ?_ ?_; kernel_rfl; kernel_rfl; conv => whnf) | (refine draw_lex hE ?_ ?_; decide +kernel; conv => whnf) | (refine brd (fun h => ?_) (fun h => ?_) <;> conv => whnf) | (refine br (fun h => ?_) (fun h => ?_) <;> conv => whnf) | (refine ret_now hE ?_; conv => whnf) | (intro hlen; conv => whnf) | (refine seg_here ?_; conv => whnf) | (refine both ?_ ?_ <;> conv => whnf))
          all_goals (refine hret_up (up_drops [2, 3, 4, 5, 6] (up_trimE (up_here (hret_now hE ?_)))); (conv => whnf); exact ⟨rfl, rfl, rfl, rfl⟩)
        · rw [if_neg hk4] at hst
          have hgr := chg_grow ⟨kd, p, .mk n a t ps⟩ hcx.1 p k cur hg
          generalize chgT ⟨kd, p, .mk n a t ps⟩ cur p = R at *
          obtain ⟨l', b, e⟩ := R
          obtain ⟨bk, bp, bx⟩ := b
          obtain ⟨bn, ba, bt, bq⟩ := bx
          simp only [chgV, chA_mk] at hch
          simp only at hst hgr
          have hemc : kd = 2 → emptyN (.mk n a t ps) = true := fun e => by
            cases hh : emptyN (.mk n a t ps) with
            | true => rfl
            | false => exact absurd ⟨e, hh⟩ hk4
          by_cases he : e = 0
          · subst he
            rw [if_pos rfl] at hst
            have hft : (bs ++ [(⟨bk, bp, .mk bn ba bt bq⟩ : Ch)]).map chA = bs.map chA ++ [.agg [.int .i64 bk, .lst (bp.map (V.int .i64)), .str bn, .lst (ba.map attA), .str bt, .lst (nodesL bq)]] := by rw [List.map_append, List.map_cons, List.map_nil, chA_mk]
            have htk : List.take bs.length (List.drop 0 (bs.map chA)) = bs.map chA := by rw [List.drop_zero]; exact List.take_of_length_le (by omega)
            have e2 : killL 5 (killL 4 (killL 3 (killL 2 (List.take bs.length (List.drop 0 (bs.map chA)) ++ List.take 1 (List.drop 0 [.agg [.int .i64 bk, .lst (bp.map (V.int .i64)), .str bn, .lst (ba.map attA), .str bt, .lst (nodesL bq)]]))))) = (bs ++ [(⟨bk, bp, .mk bn ba bt bq⟩ : Ch)]).map chA := by
              rw [show List.take bs.length (List.drop 0 (bs.map chA)) ++ List.take 1 (List.drop 0 [V.agg [.int .i64 bk, .lst (bp.map (V.int .i64)), .str bn, .lst (ba.map attA), .str bt, .lst (nodesL bq)]]) = (bs ++ [(⟨bk, bp, .mk bn ba bt bq⟩ : Ch)]).map chA from by rw [htk, hft]; rfl]
              rw [kill_nrL _ (chA_nr _), kill_nrL _ (chA_nr _), kill_nrL _ (chA_nr _), kill_nrL _ (chA_nr _)]
            have e1 : bs.length + (List.take 1 (List.drop 0 [V.agg [.int .i64 bk, .lst (bp.map (V.int .i64)), .str bn, .lst (ba.map attA), .str bt, .lst (nodesL bq)]])).length = (bs ++ [(⟨bk, bp, .mk bn ba bt bq⟩ : Ch)]).length := by rw [List.length_append]; rfl
            have hI2 : k + 1 ≤ cs.length ∧ (bs ++ [(⟨bk, bp, .mk bn ba bt bq⟩ : Ch)]).length = k + 1 ∧ gL (k + 1) l' ∧ playA l [] cs = playA l' (bs ++ [⟨bk, bp, .mk bn ba bt bq⟩]) (cs.drop (k + 1)) := ⟨hlt, by simp [hbl], hgr, hI.trans hst⟩
            by_cases hk2 : kd = 2
            · rw [hemc hk2] at hem
              conv => whnf
              repeat' (first | (refine brd_t (by first | assumption | omega) ?_; conv => whnf) | (refine brd_f (by first | assumption | omega) ?_; conv => whnf) | (refine ask (by first | assumption | omega) ?_; conv => whnf) | (refine fit64 (by omega) ?_; conv => whnf) | (refine fit (by simp only [kmin, kmax]; omega) ?_; conv => whnf) | (refine br_t (by assumption) ?_; conv => whnf) | (refine br_f (by assumption) ?_; conv => whnf) | (refine get_of (by assumption) ?_; conv => whnf) | (refine get_map (by assumption) ?_; conv => whnf) | (refine call_eq (hem) hC hasBody_23 ?_ ?_ ?_; kernel_rfl; kernel_rfl; conv => whnf) | (refine callq_eq (hem) hC hasBody_23 ?_ ?_ ?_; kernel_rfl; kernel_rfl; conv => whnf) | (refine call_eq (hch) hC hasBody_24 ?_ ?_ ?_; kernel_rfl; kernel_rfl; conv => whnf) | (refine callq_eq (hch) hC hasBody_24 ?_ ?_ ?_; kernel_rfl; kernel_rfl; conv => whnf) | (refine ask (Nat.le_refl 1) ?_; conv => whnf) | (refine ask ⟨?_, ?_, ?_⟩ ?_; omega; (show bs.length + 1 ≤ 9223372036854775807; omega); (show (bs.length + 1) * 112 ≤ 140737488355328; omega); conv => whnf) | (refine draw_lex hE ?_ ?_; decide +kernel; conv => whnf) | (refine brd (fun h => ?_) (fun h => ?_) <;> conv => whnf) | (refine br (fun h => ?_) (fun h => ?_) <;> conv => whnf) | (refine ret_now hE ?_; conv => whnf) | (intro hlen; conv => whnf) | (refine seg_here ?_; conv => whnf) | (refine both ?_ ?_ <;> conv => whnf))
              refine next_drop [0, 7, 16, 17, 18] [3, 4, 5] (k + 1, l', bs ++ [⟨bk, bp, .mk bn ba bt bq⟩]) hI2 (show cs.length - (k + 1) < cs.length - k by omega) ?_
              conv => whnf
              rw [e1, e2]
              rfl
            · conv => whnf
              repeat' (first | (refine brd_t (by first | assumption | omega) ?_; conv => whnf) | (refine brd_f (by first | assumption | omega) ?_; conv => whnf) | (refine ask (by first | assumption | omega) ?_; conv => whnf) | (refine fit64 (by omega) ?_; conv => whnf) | (refine fit (by simp only [kmin, kmax]; omega) ?_; conv => whnf) | (refine br_t (by assumption) ?_; conv => whnf) | (refine br_f (by assumption) ?_; conv => whnf) | (refine get_of (by assumption) ?_; conv => whnf) | (refine get_map (by assumption) ?_; conv => whnf) | (refine call_eq (hch) hC hasBody_24 ?_ ?_ ?_; kernel_rfl; kernel_rfl; conv => whnf) | (refine callq_eq (hch) hC hasBody_24 ?_ ?_ ?_; kernel_rfl; kernel_rfl; conv => whnf) | (refine ask (Nat.le_refl 1) ?_; conv => whnf) | (refine ask ⟨?_, ?_, ?_⟩ ?_; omega; (show bs.length + 1 ≤ 9223372036854775807; omega); (show (bs.length + 1) * 112 ≤ 140737488355328; omega); conv => whnf) | (refine draw_lex hE ?_ ?_; decide +kernel; conv => whnf) | (refine brd (fun h => ?_) (fun h => ?_) <;> conv => whnf) | (refine br (fun h => ?_) (fun h => ?_) <;> conv => whnf) | (refine ret_now hE ?_; conv => whnf) | (intro hlen; conv => whnf) | (refine seg_here ?_; conv => whnf) | (refine both ?_ ?_ <;> conv => whnf))
              refine next_drop [0, 7, 16, 17, 18] [3, 4, 5] (k + 1, l', bs ++ [⟨bk, bp, .mk bn ba bt bq⟩]) hI2 (show cs.length - (k + 1) < cs.length - k by omega) ?_
              conv => whnf
              rw [e1, e2]
              rfl
          · rw [if_neg he] at hst
            rw [hI, hst]
            by_cases hk2 : kd = 2
            · rw [hemc hk2] at hem
              conv => whnf
              repeat' (first | (refine brd_t (by first | assumption | omega) ?_; conv => whnf) | (refine brd_f (by first | assumption | omega) ?_; conv => whnf) | (refine ask (by first | assumption | omega) ?_; conv => whnf) | (refine fit64 (by omega) ?_; conv => whnf) | (refine fit (by simp only [kmin, kmax]; omega) ?_; conv => whnf) | (refine br_t (by assumption) ?_; conv => whnf) | (refine br_f (by assumption) ?_; conv => whnf) | (refine get_of (by assumption) ?_; conv => whnf) | (refine get_map (by assumption) ?_; conv => whnf) | (refine call_eq (hem) hC hasBody_23 ?_ ?_ ?_; kernel_rfl; kernel_rfl; conv => whnf) | (refine callq_eq (hem) hC hasBody_23 ?_ ?_ ?_; kernel_rfl; kernel_rfl; conv => whnf) | (refine call_eq (hch) hC hasBody_24 ?_ ?_ ?_; kernel_rfl; kernel_rfl; conv => whnf) | (refine callq_eq (hch) hC hasBody_24 ?_ ?_ ?_; kernel_rfl; kernel_rfl; conv => whnf) | (refine draw_lex hE ?_ ?_; decide +kernel; conv => whnf) | (refine brd (fun h => ?_) (fun h => ?_) <;> conv => whnf) | (refine br (fun h => ?_) (fun h => ?_) <;> conv => whnf) | (refine ret_now hE ?_; conv => whnf) | (intro hlen; conv => whnf) | (refine seg_here ?_; conv => whnf) | (refine both ?_ ?_ <;> conv => whnf))
              all_goals (refine hret_up (up_drops [2, 3, 4, 5, 6] (up_trimE (up_here (hret_now hE ?_)))); (conv => whnf); exact ⟨rfl, rfl, rfl, rfl⟩)
            · conv => whnf
              repeat' (first | (refine brd_t (by first | assumption | omega) ?_; conv => whnf) | (refine brd_f (by first | assumption | omega) ?_; conv => whnf) | (refine ask (by first | assumption | omega) ?_; conv => whnf) | (refine fit64 (by omega) ?_; conv => whnf) | (refine fit (by simp only [kmin, kmax]; omega) ?_; conv => whnf) | (refine br_t (by assumption) ?_; conv => whnf) | (refine br_f (by assumption) ?_; conv => whnf) | (refine get_of (by assumption) ?_; conv => whnf) | (refine get_map (by assumption) ?_; conv => whnf) | (refine call_eq (hch) hC hasBody_24 ?_ ?_ ?_; kernel_rfl; kernel_rfl; conv => whnf) | (refine callq_eq (hch) hC hasBody_24 ?_ ?_ ?_; kernel_rfl; kernel_rfl; conv => whnf) | (refine draw_lex hE ?_ ?_; decide +kernel; conv => whnf) | (refine brd (fun h => ?_) (fun h => ?_) <;> conv => whnf) | (refine br (fun h => ?_) (fun h => ?_) <;> conv => whnf) | (refine ret_now hE ?_; conv => whnf) | (intro hlen; conv => whnf) | (refine seg_here ?_; conv => whnf) | (refine both ?_ ?_ <;> conv => whnf))
              all_goals (refine hret_up (up_drops [2, 3, 4, 5, 6] (up_trimE (up_here (hret_now hE ?_)))); (conv => whnf); exact ⟨rfl, rfl, rfl, rfl⟩)
    · have hkl : k = cs.length := by omega
      have hcp := (copy_copies (szL cur)).2 cur (Nat.le_refl _) (gL_fit (by omega) hg)
      rw [hkl, List.drop_length, playA] at hI
      rw [hI]
      conv => whnf
      repeat' (first | (refine brd_t (by first | assumption | omega) ?_; conv => whnf) | (refine brd_f (by first | assumption | omega) ?_; conv => whnf) | (refine ask (by first | assumption | omega) ?_; conv => whnf) | (refine fit64 (by omega) ?_; conv => whnf) | (refine fit (by simp only [kmin, kmax]; omega) ?_; conv => whnf) | (refine br_t (by assumption) ?_; conv => whnf) | (refine br_f (by assumption) ?_; conv => whnf) | (refine get_of (by assumption) ?_; conv => whnf) | (refine get_map (by assumption) ?_; conv => whnf) | (refine call_eq (hcp) hC hasBody_25 ?_ ?_ ?_; kernel_rfl; kernel_rfl; conv => whnf) | (refine callq_eq (hcp) hC hasBody_25 ?_ ?_ ?_; kernel_rfl; kernel_rfl; conv => whnf) | (refine draw_lex hE ?_ ?_; decide +kernel; conv => whnf) | (refine brd (fun h => ?_) (fun h => ?_) <;> conv => whnf) | (refine br (fun h => ?_) (fun h => ?_) <;> conv => whnf) | (refine ret_now hE ?_; conv => whnf) | (intro hlen; conv => whnf) | (refine seg_here ?_; conv => whnf) | (refine both ?_ ?_ <;> conv => whnf))
      refine hret_up (up_drop 0 (up_move 2 0 (by decide) rfl rfl (up_here (hret_now hE ?_))))
      conv => whnf
      refine ⟨rfl, rfl, rfl, ?_⟩
      show [Ob.row 6 (mvL 2 0 (killL 0 (bs.map chA)))] = _
      rw [kill_nrL _ (chA_nr bs), mv_nrL _ _ (chA_nr bs)]
end Go.Proofs.Ytkkcmobnhiiacaa

/-! slices.Reverse at []api.Change, walked. No conditions. -/
namespace Go.Proofs.Ytkkcmobnhiiacaa
open Go.RowKit

/-- The first i have changed places with the last. -/
def rvF : List Ch → Nat → List Ch
  | l, 0 => l
  | l, i + 1 => match (rvF l i)[i]?, (rvF l i)[l.length - 1 - i]? with
    | some x, some y => ((rvF l i).set i y).set (l.length - 1 - i) x
    | _, _ => rvF l i
theorem rvF_len (l : List Ch) : ∀ i, (rvF l i).length = l.length
  | 0 => by rw [rvF]
  | i + 1 => by
    rw [rvF]
    split
    · rw [List.length_set, List.length_set, rvF_len l i]
    · exact rvF_len l i
theorem rvF_get (l : List Ch) : ∀ (i m : Nat), i + i ≤ l.length → m < l.length → (rvF l i)[m]? = if m < i ∨ l.length ≤ m + i then l[l.length - 1 - m]? else l[m]?
  | 0, m, _, h => by rw [rvF, if_neg (by omega)]
  | i + 1, m, hi, h => by
    have hg := rvF_get l i
    have hn := rvF_len l i
    have hx : (rvF l i)[i]? = some (l[i]'(by omega)) := by rw [hg i (by omega) (by omega), if_neg (by omega), List.getElem?_eq_getElem]
    have hy : (rvF l i)[l.length - 1 - i]? = some (l[l.length - 1 - i]'(by omega)) := by rw [hg _ (by omega) (by omega), if_neg (by omega), List.getElem?_eq_getElem]
    rw [rvF, hx, hy]
    simp only
    by_cases h1 : m = l.length - 1 - i
    · subst h1
      rw [List.getElem?_set_self (by rw [List.length_set]; omega), if_pos (by omega)]
      rw [show l.length - 1 - (l.length - 1 - i) = i by omega, List.getElem?_eq_getElem (by omega)]
    · rw [List.getElem?_set_ne (by omega)]
      by_cases h2 : m = i
      · subst h2
        rw [List.getElem?_set_self (by omega), if_pos (by omega), List.getElem?_eq_getElem (by omega)]
      · rw [List.getElem?_set_ne (by omega), hg m (by omega) h]
        by_cases h3 : m < i ∨ l.length ≤ m + i
        · rw [if_pos h3, if_pos (by omega)]
        · rw [if_neg h3, if_neg (by omega)]
theorem rvF_end (l : List Ch) (i : Nat) (h1 : i + i ≤ l.length) (h2 : l.length ≤ i + i + 1) : rvF l i = l.reverse := by
  apply List.ext_getElem?
  intro m
  by_cases hm : m < l.length
  · rw [rvF_get l i m h1 hm, List.getElem?_reverse hm]
    split
    · rfl
    · congr 1
      omega
  · rw [List.getElem?_eq_none_iff.2 (by rw [rvF_len]; omega), List.getElem?_eq_none_iff.2 (by rw [List.length_reverse]; omega)]
set_option maxHeartbeats 8000000 in
theorem h_reverse (l : List Ch) (hl : l.length ≤ 40) (h0 : 0 < l.length) : HFn Try.prog 11 [.sl 0 0 l.length] [.row 6 (l.map chA)] [0] (fun r o => r = .tup [] ∧ o = [.row 6 (l.reverse.map chA)]) := by
  have hlm : (l.map chA).length = l.length := by simp
  refine hfnE (T := Try.tt) Try.func11 rfl tt_all follows_all ?_ ?_ fun C vs hC hE => ?_
  · kernel_rfl
  · exact Nat.le_of_ble_eq_true (by kernel_rfl)
  conv => whnf
  repeat' (first | (refine brd_t (by first | assumption | omega) ?_; conv => whnf) | (refine brd_f (by first | assumption | omega) ?_; conv => whnf) | (refine ask (by first | assumption | omega) ?_; conv => whnf) | (refine fit64 (by omega) ?_; conv => whnf) | (refine fit (by simp only [kmin, kmax]; omega) ?_; conv => whnf) | (refine br_t (by assumption) ?_; conv => whnf) | (refine br_f (by assumption) ?_; conv => whnf) | (refine get_of (by assumption) ?_; conv => whnf) | (refine get_map (by assumption) ?_; conv => whnf) | (refine draw_lex hE ?_ ?_; decide +kernel; conv => whnf) | (refine draw_any hE [⟨0, [(0, none), (1, none), (2, none), (3, none), (4, none), (5, none), (6, none), (7, none), (8, none), (9, none), (10, none), (11, none), (12, none)], some 13, [2, 3], [[], [2], [3], [2, 3]]⟩, ⟨0, [(14, none)], some 15, [], [[]]⟩] ?_ ?_; decide +kernel; conv => whnf) | (refine brd (fun h => ?_) (fun h => ?_) <;> conv => whnf) | (refine br (fun h => ?_) (fun h => ?_) <;> conv => whnf) | (refine ret_now hE ?_; conv => whnf) | (intro hlen; conv => whnf) | (refine seg_here ?_; conv => whnf) | (refine both ?_ ?_ <;> conv => whnf))
  refine loopE (fun i : Nat => ⟨28, [(0, .sl 0 0 l.length), (2, .int .i64 i), (3, .int .i64 ((l.length : Int) - 1 - i))], [some (.row 6 ((rvF l i).map chA)), some (.hid vs [.sl 0 0 l.length])]⟩) (fun i => i + i ≤ l.length) (fun i => l.length - i) 0 hE ?_ ?_ (Nat.zero_le _) ?_
  · kernel_rfl
  · refine at_keep [0, 2, 3] ?_
    show _ = (⟨28, [(0, .sl 0 0 l.length), (2, .int .i64 0), (3, .int .i64 ((l.length : Int) - 1 - ((0 : Nat) : Int)))], [some (.row 6 ((rvF l 0).map chA)), some (.hid vs [.sl 0 0 l.length])]⟩ : ES)
    rw [show (l.length : Int) - 1 - ((0 : Nat) : Int) = (l.length : Int) - 1 by omega, rvF]
    rfl
  intro i hi
  have hi : i + i ≤ l.length := hi
  have hrl := rvF_len l i
  have hrm : ((rvF l i).map chA).length = l.length := by rw [List.length_map, hrl]
  by_cases hlt : (i : Int) < (l.length : Int) - 1 - i
  · obtain ⟨kd, p, n, a, t, ps, hx, hx'⟩ := chs_at (show i < (rvF l i).length by omega)
    obtain ⟨kd2, p2, n2, a2, t2, ps2, hy, hy'⟩ := chs_at (show l.length - 1 - i < (rvF l i).length by omega)
    have hx2 : ((rvF l i).map chA)[0 + (i : Int).toNat]? = some (.agg [.int .i64 kd, .lst (p.map (V.int .i64)), .str n, .lst (a.map attA), .str t, .lst (nodesL ps)]) := by rw [show 0 + (i : Int).toNat = i by omega]; exact hx'
    have hy2 : ((rvF l i).map chA)[0 + ((l.length : Int) - 1 - i).toNat]? = some (.agg [.int .i64 kd2, .lst (p2.map (V.int .i64)), .str n2, .lst (a2.map attA), .str t2, .lst (nodesL ps2)]) := by rw [show 0 + ((l.length : Int) - 1 - i).toNat = l.length - 1 - i by omega]; exact hy'
    have hset : (((rvF l i).map chA).set (0 + (i : Int).toNat) (.agg [.int .i64 kd2, .lst (p2.map (V.int .i64)), .str n2, .lst (a2.map attA), .str t2, .lst (nodesL ps2)]))[0 + ((l.length : Int) - 1 - i).toNat]? = some (.agg [.int .i64 kd2, .lst (p2.map (V.int .i64)), .str n2, .lst (a2.map attA), .str t2, .lst (nodesL ps2)]) := by rw [List.getElem?_set_ne (by omega)]; exact hy2
    have e2 : (((rvF l i).map chA).set (0 + (i : Int).toNat) (.agg [.int .i64 kd2, .lst (p2.map (V.int .i64)), .str n2, .lst (a2.map attA), .str t2, .lst (nodesL ps2)])).set (0 + ((l.length : Int) - 1 - i).toNat) (.agg [.int .i64 kd, .lst (p.map (V.int .i64)), .str n, .lst (a.map attA), .str t, .lst (nodesL ps)]) = (rvF l (i + 1)).map chA := by
      rw [rvF, hx, hy]
      simp only
      rw [List.map_set, List.map_set, chA_mk, chA_mk, show 0 + (i : Int).toNat = i by omega, show 0 + ((l.length : Int) - 1 - i).toNat = l.length - 1 - i by omega]
    have e3 : (l.length : Int) - 1 - i - 1 = (l.length : Int) - 1 - ((i + 1 : Nat) : Int) := by omega
    conv => whnf
    repeat' (first | (refine brd_t (by first | assumption | omega) ?_; conv => whnf) | (refine brd_f (by first | assumption | omega) ?_; conv => whnf) | (refine ask (by first | assumption | omega) ?_; conv => whnf) | (refine fit64 (by omega) ?_; conv => whnf) | (refine fit (by simp only [kmin, kmax]; omega) ?_; conv => whnf) | (refine br_t (by assumption) ?_; conv => whnf) | (refine br_f (by assumption) ?_; conv => whnf) | (refine get_of (by assumption) ?_; conv => whnf) | (refine get_map (by assumption) ?_; conv => whnf) | (refine draw_lex hE ?_ ?_; decide +kernel; conv => whnf) | (refine draw_any hE [⟨0, [(0, none), (1, none), (2, none), (3, none), (4, none), (5, none), (6, none), (7, none), (8, none), (9, none), (10, none), (11, none), (12, none)], some 13, [2, 3], [[], [2], [3], [2, 3]]⟩, ⟨0, [(14, none)], some 15, [], [[]]⟩] ?_ ?_; decide +kernel; conv => whnf) | (refine brd (fun h => ?_) (fun h => ?_) <;> conv => whnf) | (refine br (fun h => ?_) (fun h => ?_) <;> conv => whnf) | (refine ret_now hE ?_; conv => whnf) | (intro hlen; conv => whnf) | (refine seg_here ?_; conv => whnf) | (refine both ?_ ?_ <;> conv => whnf))
    all_goals
      refine next_keep [0, 2, 3] (i + 1) (show i + 1 + (i + 1) ≤ l.length by omega) (show l.length - (i + 1) < l.length - i by omega) ?_
      show _ = (⟨28, [(0, .sl 0 0 l.length), (2, .int .i64 ((i + 1 : Nat) : Int)), (3, .int .i64 ((l.length : Int) - 1 - ((i + 1 : Nat) : Int)))], [some (.row 6 ((rvF l (i + 1)).map chA)), some (.hid vs [.sl 0 0 l.length])]⟩ : ES)
      rw [← e2, ← e3]
      rfl
  · conv => whnf
    repeat' (first | (refine brd_t (by first | assumption | omega) ?_; conv => whnf) | (refine brd_f (by first | assumption | omega) ?_; conv => whnf) | (refine ask (by first | assumption | omega) ?_; conv => whnf) | (refine fit64 (by omega) ?_; conv => whnf) | (refine fit (by simp only [kmin, kmax]; omega) ?_; conv => whnf) | (refine br_t (by assumption) ?_; conv => whnf) | (refine br_f (by assumption) ?_; conv => whnf) | (refine get_of (by assumption) ?_; conv => whnf) | (refine get_map (by assumption) ?_; conv => whnf) | (refine draw_lex hE ?_ ?_; decide +kernel; conv => whnf) | (refine draw_any hE [⟨0, [(0, none), (1, none), (2, none), (3, none), (4, none), (5, none), (6, none), (7, none), (8, none), (9, none), (10, none), (11, none), (12, none)], some 13, [2, 3], [[], [2], [3], [2, 3]]⟩, ⟨0, [(14, none)], some 15, [], [[]]⟩] ?_ ?_; decide +kernel; conv => whnf) | (refine brd (fun h => ?_) (fun h => ?_) <;> conv => whnf) | (refine br (fun h => ?_) (fun h => ?_) <;> conv => whnf) | (refine ret_now hE ?_; conv => whnf) | (intro hlen; conv => whnf) | (refine seg_here ?_; conv => whnf) | (refine both ?_ ?_ <;> conv => whnf))
    refine hret_up (up_here (hret_now hE ?_))
    conv => whnf
    have hbl : Nat.blt 0 l.length = true := by rw [Nat.blt_eq]; exact h0
    refine ⟨rfl, ?_, rfl, ?_⟩
    · simp [fixOk, obZ, isPtr0, hbl, h0]
    · rw [← rvF_end l i hi (by omega)]
end Go.Proofs.Ytkkcmobnhiiacaa

/-! walk.Invert; the document's WalkInvert; walked. No conditions. -/
namespace Go.Proofs.Ytkkcmobnhiiacaa
open Go.RowKit

theorem call_freshT {C : Ctx} {P : Program} {f : FuncId} {z m : Nat} {e : Int} {x els' xs0 xs1 : List V} {fop : Operand} {args : List Operand} {K : V → ES → Prop} {σ : ES} (h : HFn P f xs0 [.row z []] [] (fun r o => r = .tup [.lst x, .sl 0 0 m, .int .i64 e] ∧ o = [.row z els'])) (hC : C.P = P) (hb : hasBody P f = true)
    (p : Nat) (he : evalC σ fop args = some (f, xs1)) (hx : rnL 1 (fun _ => p) xs0 xs1) (hrow : σ.heap[p]? = some (some (.row z []))) (hn' : nrL els')
    (hK : killUE p σ.u fun u => fH ((killH p σ.heap).set p (some (.row z els'))) fun h => K (.tup [.lst x, .sl p 0 m, .int .i64 e]) ⟨σ.n, u, h⟩) : CallN C fop args f xs1 K σ := by
  rw [killUE_eq, fH_eq] at hK
  refine call_h h hC hb he (fun _ => p) ?_ ?_ ?_ [p] ?_ ?_ ?_
  · intro i j hi hj _
    simp at hi hj
    omega
  · exact hx
  · intro j o ho
    match j, ho with
    | 0, ho =>
      simp at ho
      subst ho
      exact ⟨_, hrow, [], rfl, rnL_self trivial⟩
    | n + 1, ho => simp at ho
  · intro j _ hn
    exact absurd (by simp) hn
  · intro id hid
    simp at hid
    exact ⟨0, by simp, hid.symm⟩
  · rintro r0 objs' ⟨rfl, rfl⟩ _
    refine ⟨.tup [.lst x, .sl p 0 m, .int .i64 e], [.row z els'], by simp [rnV, rnL], rfl, ?_, hK⟩
    intro j o o' ho ho'
    match j, ho, ho' with
    | 0, ho, ho' =>
      simp at ho ho'
      subst ho; subst ho'
      exact ⟨els', rfl, rnL_self hn'⟩
    | n + 1, ho, _ => simp at ho
/-- A call upon an own row that stays where it lies. -/
theorem call_ownK {C : Ctx} {P : Program} {f : FuncId} {z n0 : Nat} {els els' xs0 : List V} {R0 : V} {fop : Operand} {args : List Operand} {K : V → ES → Prop} {σ : ES} (h : HFn P f (.sl 0 0 n0 :: xs0) [.row z els] [0] (fun r o => r = R0 ∧ o = [.row z els'])) (hC : C.P = P) (hb : hasBody P f = true)
    (p : Nat) (he : evalC σ fop args = some (f, .sl p 0 n0 :: xs0)) (hx : nrL xs0) (hR : R0.nr) (hrow : σ.heap[p]? = some (some (.row z els))) (hn : nrL els) (hn' : nrL els')
    (hK : fH (σ.heap.set p (some (.row z els'))) fun h => K R0 ⟨σ.n, σ.u, h⟩) : CallN C fop args f (.sl p 0 n0 :: xs0) K σ := by
  rw [fH_eq] at hK
  refine call_h h hC hb he (fun _ => p) ?_ ?_ ?_ [] ?_ ?_ ?_
  · intro i j hi hj _
    simp at hi hj
    omega
  · simp only [rnL]
    exact ⟨.sl p 0 n0, xs0, rfl, by simp [rnV], rnL_self hx⟩
  · intro j o ho
    match j, ho with
    | 0, ho =>
      simp at ho
      subst ho
      exact ⟨_, hrow, els, rfl, rnL_self hn⟩
    | n + 1, ho => simp at ho
  · intro j hj _
    simp at hj
    subst hj
    simp
  · intro id hid
    simp at hid
  · rintro r0 objs' ⟨rfl, rfl⟩ _
    refine ⟨r0, [.row z els'], rnV_nr r0 hR, rfl, ?_, by rw [killUM_nil]; exact hK⟩
    intro j o o' ho ho'
    match j, ho, ho' with
    | 0, ho, ho' =>
      simp at ho ho'
      subst ho; subst ho'
      exact ⟨els', rfl, rnL_self hn'⟩
    | n + 1, ho, _ => simp at ho
/-- What undoes a change of l. -/
def invC (l : List Nd) (c : Ch) : Ch := if c.kind = 1 then ⟨2, c.path, nd0⟩ else ⟨if c.kind = 2 then 1 else c.kind, c.path, atN (atF l c.path)⟩
def fwdF (all : List (List Nd)) : Nat → List Ch → List Ch
  | _, [] => []
  | j, c :: cs => invC (all.getD j []) c :: fwdF all (j + 1) cs
theorem fwd_len (all : List (List Nd)) : ∀ cs j, (fwdF all j cs).length = cs.length
  | [], j => by simp [fwdF]
  | c :: cs, j => by simp [fwdF, fwd_len all cs]
theorem fwd_get (all : List (List Nd)) : ∀ (cs : List Ch) (j k : Nat) {c : Ch}, cs[k]? = some c → (fwdF all j cs)[k]? = some (invC (all.getD (j + k) []) c)
  | [], j, k, c, h => by simp at h
  | d :: cs, j, 0, c, h => by
    simp at h
    subst h
    simp [fwdF]
  | d :: cs, j, k + 1, c, h => by
    simp at h
    rw [fwdF]
    simp only [List.getElem?_cons_succ]
    rw [fwd_get all cs (j + 1) k h, show j + 1 + k = j + (k + 1) by omega]
theorem chg_back (c : Ch) (hk : c.kind = 1 ∨ c.kind = 2 ∨ c.kind = 3) (path : List Int) : ∀ l, (chgT c l path).2.2 = 0 → (chgT c l path).2.1 = if c.kind = 1 then ⟨2, c.path, nd0⟩ else ⟨if c.kind = 2 then 1 else c.kind, c.path, atN (atF l path)⟩ := by
  induction path with
  | nil => intro l h; rw [chgT] at h; exact absurd (show (7 : Int) = 0 from h) (by decide)
  | cons p ps ih =>
    intro l
    rw [chgT]
    generalize hz : (if c.kind = 1 ∧ ps = [] then (1 : Int) else 0) = z
    by_cases hp : p < 0 ∨ (l.length : Int) + z ≤ p
    · rw [if_pos hp]; intro h; exact absurd (show (7 : Int) = 0 from h) (by decide)
    · rw [if_neg hp]
      by_cases hps : ps = []
      · rw [if_pos hps]
        subst hps
        rcases hk with h | h | h
        · rw [if_pos h, if_pos h]; intro _; rfl
        · have h1 : ¬ c.kind = 1 := by omega
          rw [if_neg (fun g => h1 g.1)] at hz
          have hlt : p.toNat < l.length := by omega
          rw [if_neg h1, if_pos h, if_neg h1, if_pos h, atF, if_neg (by omega), List.getElem?_eq_getElem hlt]
          intro _
          simp [atN, List.getD_eq_getElem?_getD, List.getElem?_eq_getElem hlt]
        · have h1 : ¬ c.kind = 1 := by omega
          have h2 : ¬ c.kind = 2 := by omega
          rw [if_neg (fun g => h1 g.1)] at hz
          have hlt : p.toNat < l.length := by omega
          rw [if_neg h1, if_neg h2, if_neg h1, if_neg h2, atF, if_neg (by omega), List.getElem?_eq_getElem hlt]
          intro _
          simp [atN, List.getD_eq_getElem?_getD, List.getElem?_eq_getElem hlt]
      · rw [if_neg (fun g => hps g.2)] at hz
        have hlt : p.toNat < l.length := by omega
        have hn := List.getElem?_eq_getElem hlt
        generalize l[p.toNat] = n at hn
        have hat : atF l (p :: ps) = if n.name = [] then none else atF n.parts ps := by
          rw [atF, if_neg (by omega), hn]
          simp only
          rw [if_neg hps]
        rw [if_neg hps, hat, hn]
        simp only
        by_cases hnm : n.name = []
        · rw [if_pos hnm]; intro h; exact absurd (show (7 : Int) = 0 from h) (by decide)
        · rw [if_neg hnm, if_neg hnm]
          have := ih n.parts
          generalize chgT c n.parts ps = R at *
          obtain ⟨q, b, e⟩ := R
          exact this
theorem play_back (cs : List Ch) : ∀ pre now bs all, docA pre now cs = .ok all → ∃ x, playA now bs cs = .ok (x, bs ++ fwdF all pre.length cs) ∧ all[pre.length]? = some now ∧ ∃ post, all = pre ++ post := by
  induction cs with
  | nil =>
    intro pre now bs all h
    rw [docA] at h
    injection h with h
    subst h
    exact ⟨now, by rw [playA, fwdF, List.append_nil], by simp, [now], rfl⟩
  | cons c cs ih =>
    intro pre now bs all h
    rw [docA] at h
    rw [playA]
    unfold docS at h
    by_cases hk3 : c.kind < 1 ∨ 3 < c.kind
    · rw [if_pos hk3] at h; injection h
    · rw [if_neg hk3] at h ⊢
      by_cases hk4 : c.kind = 2 ∧ emptyN c.node = false
      · rw [if_pos hk4] at h; injection h
      · rw [if_neg hk4] at h ⊢
        have hcd := chg_doc c (by omega) c.path now
        have hcb := chg_back c (by omega) c.path now
        unfold docT at hcd
        rw [← hcd] at h
        generalize chgT c now c.path = R at *
        obtain ⟨q, b, e⟩ := R
        unfold chgR at h
        simp only at h hcb ⊢
        by_cases he : e = 0
        · rw [if_pos he] at h ⊢
          simp only at h
          obtain ⟨x, h1, h2, post, h3⟩ := ih (pre ++ [now]) q (bs ++ [b]) all h
          have h4 : all[pre.length]? = some now := by rw [h3]; simp
          refine ⟨x, ?_, h4, [now] ++ post, by rw [h3]; simp⟩
          rw [h1, fwdF, List.length_append, List.length_singleton]
          have h5 : invC (all.getD pre.length []) c = b := by
            rw [List.getD_eq_getElem?_getD, h4, Option.getD_some, hcb he]
            rfl
          rw [h5]
          simp
        · rw [if_neg he] at h
          injection h
end Go.Proofs.Ytkkcmobnhiiacaa

/-! The document's WalkInvert, walked. No conditions. -/
namespace Go.Proofs.Ytkkcmobnhiiacaa
open Go.RowKit

def docI (l : List Nd) (cs : List Ch) : V := match docP l cs with
  | .ok all => .tup [.lst ((fwdF all 0 cs).reverse.map chA), .int .i64 0]
  | .error e => .tup [.lst [], .int .i64 e]
theorem docA_get (cs : List Ch) : ∀ {pre now all}, docA pre now cs = .ok all → all.length = pre.length + cs.length + 1 := by
  induction cs with
  | nil => intro pre now all h; rw [docA] at h; injection h with h; subst h; simp
  | cons c cs ih =>
    intro pre now all h
    rw [docA] at h
    split at h
    · injection h
    · rw [ih h]; simp; omega
theorem rev_step {F : List Ch} {m : Nat} {y : Ch} (hm : m < F.length) (hy : F[F.length - 1 - m]? = some y) : (F.drop (F.length - (m + 1))).reverse = (F.drop (F.length - m)).reverse ++ [y] := by
  have h1 : F.length - (m + 1) < F.length := by omega
  rw [List.drop_eq_getElem_cons h1, List.reverse_cons, show F.length - (m + 1) + 1 = F.length - m by omega]
  congr 2
  rw [show F.length - 1 - m = F.length - (m + 1) by omega, List.getElem?_eq_getElem h1] at hy
  injection hy
/-- What the document puts down for the change at i: nils where nothing is said. -/
def vI (cs F : List Ch) (i : Nat) : V := match cs[i]? with
  | none => .any
  | some c => if c.kind = 1 then .agg [.int .i64 2, .lst (c.path.map (V.int .i64)), .str [], .nils, .str [], .nils] else chA (F.getD i ⟨0, [], nd0⟩)
def rI (cs F : List Ch) : Nat → List V
  | 0 => []
  | m + 1 => rI cs F m ++ [vI cs F (cs.length - 1 - m)]
theorem rI_len (cs F : List Ch) : ∀ m, (rI cs F m).length = m
  | 0 => by simp [rI]
  | m + 1 => by rw [rI, List.length_append, rI_len cs F m]; rfl
theorem nl_app (a b : List V) : nlL (a ++ b) = nlL a ++ nlL b := by
  induction a with
  | nil => simp [nlL]
  | cons x a ih => simp only [List.cons_append, nlL, ih]
theorem nr_app {a b : List V} (ha : nrL a) (hb : nrL b) : nrL (a ++ b) := by
  rw [nrL_mem] at ha hb ⊢
  intro x hx
  rcases List.mem_append.1 hx with h | h
  · exact ha x h
  · exact hb x h
theorem chA_nrV (c : Ch) : (chA c).nr := (nrL_mem.1 (chA_nr [c])) _ (by simp)
theorem rI_nr (cs F : List Ch) : ∀ m, m ≤ cs.length → nrL (rI cs F m)
  | 0, _ => by simp [rI, nrL]
  | m + 1, h => by
    rw [rI]
    refine nr_app (rI_nr cs F m (by omega)) ⟨?_, trivial⟩
    unfold vI
    rw [List.getElem?_eq_getElem (by omega)]
    simp only
    split
    · exact ⟨trivial, trivial, trivial, trivial, trivial, trivial, trivial⟩
    · exact chA_nrV _
theorem rI_nl (cs F : List Ch) (hF : F.length = cs.length) (hk : ∀ (i : Nat) (c : Ch), cs[i]? = some c → c.kind = 1 → F[i]? = some ⟨2, c.path, nd0⟩) : ∀ m, m ≤ cs.length → nlL (rI cs F m) = ((F.drop (F.length - m)).reverse).map chA
  | 0, _ => by
    rw [show F.drop (F.length - 0) = [] from List.drop_length]
    simp [rI, nlL]
  | m + 1, h => by
    have hi : cs.length - 1 - m < cs.length := by omega
    obtain ⟨y, hy⟩ : ∃ y, F[cs.length - 1 - m]? = some y := ⟨_, List.getElem?_eq_getElem (by omega)⟩
    have hFi : F[F.length - 1 - m]? = some y := by rw [hF]; exact hy
    rw [rev_step (by omega) hFi, rI, nl_app, rI_nl cs F hF hk m (by omega), List.map_append]
    congr 1
    have hc := List.getElem?_eq_getElem hi
    unfold vI
    rw [hc]
    simp only
    split
    · rename_i hk1
      have := hk _ _ hc hk1
      rw [hy] at this
      injection this with this
      rw [this]
      unfold nd0
      rw [List.map_cons, List.map_nil, chA_mk]
      simp [nlL, V.nl, nl_ints, nodesL]
    · rw [List.getD_eq_getElem?_getD, hy, Option.getD_some]
      exact nl_chs [_]
set_option maxHeartbeats 8000000 in
theorem ref_Invert (l : List Nd) (hl : gL 0 l) (cs : List Ch) (hc : ∀ c ∈ cs, gN 0 c.node ∧ c.path.length * 8 ≤ 140737488351232) : Fn1 Try.prog 6 [.lst (nodesL l), .lst (cs.map chA)] (fun r => r = docI l cs) := by
  have h1 := ref_Played l hl cs hc
  have hcm : (cs.map chA).length = cs.length := by simp
  unfold docI
  refine fn1_nl ?_
  cases hD : docP l cs with
  | error e =>
    rw [hD] at h1
    simp only [docV] at h1
    have hne := docP_err hD
    refine fn1E (T := Try.tt) Try.func6 rfl tt_all follows_all ?_ ?_ fun C hC hE => ?_
    · kernel_rfl
    · exact Nat.le_of_ble_eq_true (by kernel_rfl)
    conv => whnf
    repeat' (first | (refine brd_t (by first | assumption | omega) ?_; conv => whnf) | (refine brd_f (by first | assumption | omega) ?_; conv => whnf) | (refine ask (by first | assumption | omega) ?_; conv => whnf) | (refine fit64 (by omega) ?_; conv => whnf) | (refine fit (by simp only [kmin, kmax]; omega) ?_; conv => whnf) | (refine br_t (by assumption) ?_; conv => whnf) | (refine br_f (by assumption) ?_; conv => whnf) | (refine get_of (by assumption) ?_; conv => whnf) | (refine get_map (by assumption) ?_; conv => whnf) | (refine call_eq (h1) hC hasBody_12 ?_ ?_ ?_; kernel_rfl; kernel_rfl; conv => whnf) | (refine callq_eq (h1) hC hasBody_12 ?_ ?_ ?_; kernel_rfl; kernel_rfl; conv => whnf) | (refine draw_lex hE ?_ ?_; decide +kernel; conv => whnf) | (refine draw_any hE [⟨1, [(0, none), (1, none), (2, none), (3, none), (4, none), (5, none), (6, none), (7, none), (8, none), (9, none), (10, none), (11, some 0)], some 12, [], [[]]⟩] ?_ ?_; decide +kernel; conv => whnf) | (refine draw_any hE [⟨0, [(0, none), (1, none), (2, none), (3, none), (4, none), (5, none), (6, none), (7, none), (8, none), (9, none), (10, none)], some 11, [9], [[], [9]]⟩, ⟨0, [], none, [], [[]]⟩] ?_ ?_; decide +kernel; conv => whnf) | (refine brd (fun h => ?_) (fun h => ?_) <;> conv => whnf) | (refine br (fun h => ?_) (fun h => ?_) <;> conv => whnf) | (refine ret_now hE ?_; conv => whnf) | (intro hlen; conv => whnf) | (refine seg_here ?_; conv => whnf) | (refine both ?_ ?_ <;> conv => whnf))
    all_goals exact ⟨rfl, by simp [V.nl, nlL]⟩
  | ok all =>
    rw [hD] at h1
    simp only [docV] at h1
    have h40 : cs.length ≤ 40 := by
      unfold docP at hD
      split at hD
      · injection hD
      · omega
    have hal : all.length = cs.length + 1 := by
      unfold docP at hD
      rw [if_neg (by omega)] at hD
      rw [docA_get cs hD]; simp
    have hFl := fwd_len all cs 0
    have hFg := fun k c (h : cs[k]? = some c) => fwd_get all cs 0 k h
    have hFk : ∀ (i : Nat) (c : Ch), cs[i]? = some c → c.kind = 1 → (fwdF all 0 cs)[i]? = some ⟨2, c.path, nd0⟩ := fun i c h1 h2 => by
      rw [hFg i c h1]
      unfold invC
      rw [if_pos h2]
    generalize hFe : fwdF all 0 cs = F at *
    have hrl := rowN_len all
    refine fn1E (T := Try.tt) Try.func6 rfl tt_all follows_all ?_ ?_ fun C hC hE => ?_
    · kernel_rfl
    · exact Nat.le_of_ble_eq_true (by kernel_rfl)
    conv => whnf
    repeat' (first | (refine brd_t (by first | assumption | omega) ?_; conv => whnf) | (refine brd_f (by first | assumption | omega) ?_; conv => whnf) | (refine ask (by first | assumption | omega) ?_; conv => whnf) | (refine fit64 (by omega) ?_; conv => whnf) | (refine fit (by simp only [kmin, kmax]; omega) ?_; conv => whnf) | (refine br_t (by assumption) ?_; conv => whnf) | (refine br_f (by assumption) ?_; conv => whnf) | (refine get_of (by assumption) ?_; conv => whnf) | (refine get_map (by assumption) ?_; conv => whnf) | (refine call_eq (h1) hC hasBody_12 ?_ ?_ ?_; kernel_rfl; kernel_rfl; conv => whnf) | (refine callq_eq (h1) hC hasBody_12 ?_ ?_ ?_; kernel_rfl; kernel_rfl; conv => whnf) | (refine draw_lex hE ?_ ?_; decide +kernel; conv => whnf) | (refine draw_any hE [⟨1, [(0, none), (1, none), (2, none), (3, none), (4, none), (5, none), (6, none), (7, none), (8, none), (9, none), (10, none), (11, some 0)], some 12, [], [[]]⟩] ?_ ?_; decide +kernel; conv => whnf) | (refine draw_any hE [⟨0, [(0, none), (1, none), (2, none), (3, none), (4, none), (5, none), (6, none), (7, none), (8, none), (9, none), (10, none)], some 11, [9], [[], [9]]⟩, ⟨0, [], none, [], [[]]⟩] ?_ ?_; decide +kernel; conv => whnf) | (refine brd (fun h => ?_) (fun h => ?_) <;> conv => whnf) | (refine br (fun h => ?_) (fun h => ?_) <;> conv => whnf) | (refine ret_now hE ?_; conv => whnf) | (intro hlen; conv => whnf) | (refine seg_here ?_; conv => whnf) | (refine both ?_ ?_ <;> conv => whnf))
    refine loopE (fun m : Nat => ⟨62, [(1, .lst (cs.map chA)), (6, .lst (rowN all)), (8, .sl 0 0 (rI cs F m).length), (9, .int .i64 ((cs.length : Int) - 1 - m))], [some (.row 6 (rI cs F m))]⟩) (fun m => m ≤ cs.length) (fun m => cs.length - m) 0 hE ?_ ?_ (Nat.zero_le _) ?_
    · kernel_rfl
    · refine up_own 8 6 rfl rfl (at_keep [1, 6, 8, 9] ?_)
      show _ = (⟨62, [(1, .lst (cs.map chA)), (6, .lst (rowN all)), (8, .sl 0 0 (rI cs F 0).length), (9, .int .i64 ((cs.length : Int) - 1 - ((0 : Nat) : Int)))], [some (.row 6 (rI cs F 0))]⟩ : ES)
      rw [show (cs.length : Int) - 1 - ((0 : Nat) : Int) = ((cs.map chA).length : Int) - 1 by rw [hcm]; omega]
      rfl
    intro m hm
    have hm : m ≤ cs.length := hm
    have hrm := rI_len cs F m
    by_cases hlt : m < cs.length
    · obtain ⟨kd, p, n, a, t, ps, hx, hx'⟩ := chs_at (show cs.length - 1 - m < cs.length by omega)
      have hx2 : (cs.map chA)[((cs.length : Int) - 1 - m).toNat]? = some (.agg [.int .i64 kd, .lst (p.map (V.int .i64)), .str n, .lst (a.map attA), .str t, .lst (nodesL ps)]) := by rw [show ((cs.length : Int) - 1 - m).toNat = cs.length - 1 - m by omega]; exact hx'
      have hac : cs.length - 1 - m < all.length := by omega
      have hall := List.getElem?_eq_getElem hac
      generalize all[cs.length - 1 - m] = x at hall
      have hrw : (rowN all)[((cs.length : Int) - 1 - m).toNat]? = some (.lst (nodesL x)) := by
        rw [show ((cs.length : Int) - 1 - m).toNat = cs.length - 1 - m by omega]
        unfold rowN
        rw [List.getElem?_map, hall]
        rfl
      have hF := hFg _ _ hx
      rw [Nat.zero_add, List.getD_eq_getElem?_getD, hall, Option.getD_some] at hF
      have hwa := walk_at_ref p x
      unfold atR at hwa
      unfold invC at hF
      simp only at hF
      generalize atE (atF x p) = ee at *
      generalize atN (atF x p) = nn at *
      obtain ⟨wn, wa, wt, wq⟩ := nn
      rw [nodeA_mk] at hwa
      have hnr := rI_nr cs F (m + 1) (by omega)
      have e3 : (cs.length : Int) - 1 - m - 1 = (cs.length : Int) - 1 - ((m + 1 : Nat) : Int) := by omega
      by_cases hk1 : kd = 1
      · subst hk1
        have hv : vI cs F (cs.length - 1 - m) = (V.agg [.int .i64 2, .lst (p.map (V.int .i64)), .str [], .nils, .str [], .nils]) := by
          unfold vI
          rw [hx]
          rfl
        conv => whnf
        repeat' (first | (refine brd_t (by first | assumption | omega) ?_; conv => whnf) | (refine brd_f (by first | assumption | omega) ?_; conv => whnf) | (refine ask (by first | assumption | omega) ?_; conv => whnf) | (refine fit64 (by omega) ?_; conv => whnf) | (refine fit (by simp only [kmin, kmax]; omega) ?_; conv => whnf) | (refine br_t (by assumption) ?_; conv => whnf) | (refine br_f (by assumption) ?_; conv => whnf) | (refine get_of (by assumption) ?_; conv => whnf) | (refine get_map (by assumption) ?_; conv => whnf) | (refine ask (Nat.le_refl 1) ?_; conv => whnf) | (refine ask ⟨?_, ?_, ?_⟩ ?_; (show 0 + (rI cs F m).length ≤ _; omega); (show (rI cs F m).length + 1 ≤ 9223372036854775807; omega); (show ((rI cs F m).length + 1) * 112 ≤ 140737488355328; omega); conv => whnf) | (refine draw_lex hE ?_ ?_; decide +kernel; conv => whnf) | (refine draw_any hE [⟨1, [(0, none), (1, none), (2, none), (3, none), (4, none), (5, none), (6, none), (7, none), (8, none), (9, none), (10, none), (11, some 0)], some 12, [], [[]]⟩] ?_ ?_; decide +kernel; conv => whnf) | (refine draw_any hE [⟨0, [(0, none), (1, none), (2, none), (3, none), (4, none), (5, none), (6, none), (7, none), (8, none), (9, none), (10, none)], some 11, [9], [[], [9]]⟩, ⟨0, [], none, [], [[]]⟩] ?_ ?_; decide +kernel; conv => whnf) | (refine brd (fun h => ?_) (fun h => ?_) <;> conv => whnf) | (refine br (fun h => ?_) (fun h => ?_) <;> conv => whnf) | (refine ret_now hE ?_; conv => whnf) | (intro hlen; conv => whnf) | (refine seg_here ?_; conv => whnf) | (refine both ?_ ?_ <;> conv => whnf))
        have f1 : (rI cs F m).length + (List.take 1 (List.drop 0 [V.agg [.int .i64 2, .lst (p.map (V.int .i64)), .str [], .nils, .str [], .nils]])).length = (rI cs F (m + 1)).length := by rw [rI_len, rI_len]; rfl
        have f2 : List.take (rI cs F m).length (List.drop 0 (rI cs F m)) ++ List.take 1 (List.drop 0 [V.agg [.int .i64 2, .lst (p.map (V.int .i64)), .str [], .nils, .str [], .nils]]) = rI cs F (m + 1) := by rw [rI, hv, List.drop_zero, List.take_length]; rfl
        refine next_drop [1, 6, 8, 9] [1, 2] (m + 1) (show m + 1 ≤ cs.length by omega) (show cs.length - (m + 1) < cs.length - m by omega) ?_
        conv => whnf
        rw [f1, f2, e3]
        repeat rw [kill_nrL _ hnr]
      · by_cases hk2 : kd = 2
        · subst hk2
          have hv : vI cs F (cs.length - 1 - m) = (V.agg [.int .i64 1, .lst (p.map (V.int .i64)), .str wn, .lst (wa.map attA), .str wt, .lst (nodesL wq)]) := by
            unfold vI
            rw [hx]
            simp only
            rw [if_neg (by decide), List.getD_eq_getElem?_getD, hF, Option.getD_some, if_neg (by decide), if_pos rfl, chA_mk]
          conv => whnf
          repeat' (first | (refine brd_t (by first | assumption | omega) ?_; conv => whnf) | (refine brd_f (by first | assumption | omega) ?_; conv => whnf) | (refine ask (by first | assumption | omega) ?_; conv => whnf) | (refine fit64 (by omega) ?_; conv => whnf) | (refine fit (by simp only [kmin, kmax]; omega) ?_; conv => whnf) | (refine br_t (by assumption) ?_; conv => whnf) | (refine br_f (by assumption) ?_; conv => whnf) | (refine get_of (by assumption) ?_; conv => whnf) | (refine get_map (by assumption) ?_; conv => whnf) | (refine call_eq (hwa) hC hasBody_13 ?_ ?_ ?_; kernel_rfl; kernel_rfl; conv => whnf) | (refine callq_eq (hwa) hC hasBody_13 ?_ ?_ ?_; kernel_rfl; kernel_rfl; conv => whnf) | (refine ask (Nat.le_refl 1) ?_; conv => whnf) | (refine ask ⟨?_, ?_, ?_⟩ ?_; (show 0 + (rI cs F m).length ≤ _; omega); (show (rI cs F m).length + 1 ≤ 9223372036854775807; omega); (show ((rI cs F m).length + 1) * 112 ≤ 140737488355328; omega); conv => whnf) | (refine draw_lex hE ?_ ?_; decide +kernel; conv => whnf) | (refine draw_any hE [⟨1, [(0, none), (1, none), (2, none), (3, none), (4, none), (5, none), (6, none), (7, none), (8, none), (9, none), (10, none), (11, some 0)], some 12, [], [[]]⟩] ?_ ?_; decide +kernel; conv => whnf) | (refine draw_any hE [⟨0, [(0, none), (1, none), (2, none), (3, none), (4, none), (5, none), (6, none), (7, none), (8, none), (9, none), (10, none)], some 11, [9], [[], [9]]⟩, ⟨0, [], none, [], [[]]⟩] ?_ ?_; decide +kernel; conv => whnf) | (refine brd (fun h => ?_) (fun h => ?_) <;> conv => whnf) | (refine br (fun h => ?_) (fun h => ?_) <;> conv => whnf) | (refine ret_now hE ?_; conv => whnf) | (intro hlen; conv => whnf) | (refine seg_here ?_; conv => whnf) | (refine both ?_ ?_ <;> conv => whnf))
          all_goals
            have f1 : (rI cs F m).length + (List.take 1 (List.drop 0 [V.agg [.int .i64 1, .lst (p.map (V.int .i64)), .str wn, .lst (wa.map attA), .str wt, .lst (nodesL wq)]])).length = (rI cs F (m + 1)).length := by rw [rI_len, rI_len]; rfl
            have f2 : List.take (rI cs F m).length (List.drop 0 (rI cs F m)) ++ List.take 1 (List.drop 0 [V.agg [.int .i64 1, .lst (p.map (V.int .i64)), .str wn, .lst (wa.map attA), .str wt, .lst (nodesL wq)]]) = rI cs F (m + 1) := by rw [rI, hv, List.drop_zero, List.take_length]; rfl
            refine next_drop [1, 6, 8, 9] [1, 2] (m + 1) (show m + 1 ≤ cs.length by omega) (show cs.length - (m + 1) < cs.length - m by omega) ?_
            conv => whnf
            rw [f1, f2, e3]
            repeat rw [kill_nrL _ hnr]
        · have hv : vI cs F (cs.length - 1 - m) = (V.agg [.int .i64 kd, .lst (p.map (V.int .i64)), .str wn, .lst (wa.map attA), .str wt, .lst (nodesL wq)]) := by
            unfold vI
            rw [hx]
            simp only
            rw [if_neg hk1, List.getD_eq_getElem?_getD, hF, Option.getD_some, if_neg hk1, if_neg hk2, chA_mk]
          conv => whnf
          repeat' (first | (refine brd_t (by first | assumption | omega) ?_; conv => whnf) | (refine brd_f (by first | assumption | omega) ?_; conv => whnf) | (refine ask (by first | assumption | omega) ?_; conv => whnf) | (refine fit64 (by omega) ?_; conv => whnf) | (refine fit (by simp only [kmin, kmax]; omega) ?_; conv => whnf) | (refine br_t (by assumption) ?_; conv => whnf) | (refine br_f (by assumption) ?_; conv => whnf) | (refine get_of (by assumption) ?_; conv => whnf) | (refine get_map (by assumption) ?_; conv => whnf) | (refine call_eq (hwa) hC hasBody_13 ?_ ?_ ?_; kernel_rfl; kernel_rfl; conv => whnf) | (refine callq_eq (hwa) hC hasBody_13 ?_ ?_ ?_; kernel_rfl; kernel_rfl; conv => whnf) | (refine ask (Nat.le_refl 1) ?_; conv => whnf) | (refine ask ⟨?_, ?_, ?_⟩ ?_; (show 0 + (rI cs F m).length ≤ _; omega); (show (rI cs F m).length + 1 ≤ 9223372036854775807; omega); (show ((rI cs F m).length + 1) * 112 ≤ 140737488355328; omega); conv => whnf) | (refine draw_lex hE ?_ ?_; decide +kernel; conv => whnf) | (refine draw_any hE [⟨1, [(0, none), (1, none), (2, none), (3, none), (4, none), (5, none), (6, none), (7, none), (8, none), (9, none), (10, none), (11, some 0)], some 12, [], [[]]⟩] ?_ ?_; decide +kernel; conv => whnf) | (refine draw_any hE [⟨0, [(0, none), (1, none), (2, none), (3, none), (4, none), (5, none), (6, none), (7, none), (8, none), (9, none), (10, none)], some 11, [9], [[], [9]]⟩, ⟨0, [], none, [], [[]]⟩] ?_ ?_; decide +kernel; conv => whnf) | (refine brd (fun h => ?_) (fun h => ?_) <;> conv => whnf) | (refine br (fun h => ?_) (fun h => ?_) <;> conv => whnf) | (refine ret_now hE ?_; conv => whnf) | (intro hlen; conv => whnf) | (refine seg_here ?_; conv => whnf) | (refine both ?_ ?_ <;> conv => whnf))
          all_goals
            have f1 : (rI cs F m).length + (List.take 1 (List.drop 0 [V.agg [.int .i64 kd, .lst (p.map (V.int .i64)), .str wn, .lst (wa.map attA), .str wt, .lst (nodesL wq)]])).length = (rI cs F (m + 1)).length := by rw [rI_len, rI_len]; rfl
            have f2 : List.take (rI cs F m).length (List.drop 0 (rI cs F m)) ++ List.take 1 (List.drop 0 [V.agg [.int .i64 kd, .lst (p.map (V.int .i64)), .str wn, .lst (wa.map attA), .str wt, .lst (nodesL wq)]]) = rI cs F (m + 1) := by rw [rI, hv, List.drop_zero, List.take_length]; rfl
            refine next_drop [1, 6, 8, 9] [1, 2] (m + 1) (show m + 1 ≤ cs.length by omega) (show cs.length - (m + 1) < cs.length - m by omega) ?_
            conv => whnf
            rw [f1, f2, e3]
            repeat rw [kill_nrL _ hnr]
    · have hmn : m = cs.length := by omega
      conv => whnf
      repeat' (first | (refine brd_t (by first | assumption | omega) ?_; conv => whnf) | (refine brd_f (by first | assumption | omega) ?_; conv => whnf) | (refine ask (by first | assumption | omega) ?_; conv => whnf) | (refine fit64 (by omega) ?_; conv => whnf) | (refine fit (by simp only [kmin, kmax]; omega) ?_; conv => whnf) | (refine br_t (by assumption) ?_; conv => whnf) | (refine br_f (by assumption) ?_; conv => whnf) | (refine get_of (by assumption) ?_; conv => whnf) | (refine get_map (by assumption) ?_; conv => whnf) | (refine ret_up (up_frzK 0 4 [5] rfl ?_ rfl ?_ rfl (up_here ?_)); (exact rI_nr cs F m hm); rfl) | (refine draw_lex hE ?_ ?_; decide +kernel; conv => whnf) | (refine draw_any hE [⟨1, [(0, none), (1, none), (2, none), (3, none), (4, none), (5, none), (6, none), (7, none), (8, none), (9, none), (10, none), (11, some 0)], some 12, [], [[]]⟩] ?_ ?_; decide +kernel; conv => whnf) | (refine draw_any hE [⟨0, [(0, none), (1, none), (2, none), (3, none), (4, none), (5, none), (6, none), (7, none), (8, none), (9, none), (10, none)], some 11, [9], [[], [9]]⟩, ⟨0, [], none, [], [[]]⟩] ?_ ?_; decide +kernel; conv => whnf) | (refine brd (fun h => ?_) (fun h => ?_) <;> conv => whnf) | (refine br (fun h => ?_) (fun h => ?_) <;> conv => whnf) | (refine ret_now hE ?_; conv => whnf) | (intro hlen; conv => whnf) | (refine seg_here ?_; conv => whnf) | (refine both ?_ ?_ <;> conv => whnf))
      all_goals
        refine ⟨rfl, ?_⟩
        have hnn := rI_nl cs F hFl hFk m hm
        rw [show F.drop (F.length - m) = F from by rw [hmn, hFl, Nat.sub_self]; rfl] at hnn
        first | (simp [V.nl, nlL, hnn, hFe]; done) | (simp [V.nl, nlL, hnn]; rw [hFe]; done)
end Go.Proofs.Ytkkcmobnhiiacaa

/-! walk.Invert, walked; it answers what the document says. No conditions. -/
namespace Go.Proofs.Ytkkcmobnhiiacaa
open Go.RowKit

theorem rev_nil : Fn1 Try.prog 11 [.lst []] (fun r => r = .tup []) := by
  refine fn1E (T := Try.tt) Try.func11 rfl tt_all follows_all ?_ ?_ fun C hC hE => ?_
  · kernel_rfl
  · exact Nat.le_of_ble_eq_true (by kernel_rfl)
  conv => whnf
  repeat' (first | (refine brd_t (by first | assumption | omega) ?_; conv => whnf) | (refine brd_f (by first | assumption | omega) ?_; conv => whnf) | (refine ask (by first | assumption | omega) ?_; conv => whnf) | (refine fit64 (by omega) ?_; conv => whnf) | (refine fit (by simp only [kmin, kmax]; omega) ?_; conv => whnf) | (refine br_t (by assumption) ?_; conv => whnf) | (refine br_f (by assumption) ?_; conv => whnf) | (refine get_of (by assumption) ?_; conv => whnf) | (refine get_map (by assumption) ?_; conv => whnf) | (refine draw_lex hE ?_ ?_; decide +kernel; conv => whnf) | (refine draw_any hE [⟨0, [(0, none), (1, none), (2, none), (3, none), (4, none), (5, none), (6, none), (7, none), (8, none), (9, none), (10, none), (11, none), (12, none)], some 13, [2, 3], [[], [2], [3], [2, 3]]⟩, ⟨0, [(14, none)], some 15, [], [[]]⟩] ?_ ?_; decide +kernel; conv => whnf) | (refine brd (fun h => ?_) (fun h => ?_) <;> conv => whnf) | (refine br (fun h => ?_) (fun h => ?_) <;> conv => whnf) | (refine ret_now hE ?_; conv => whnf) | (intro hlen; conv => whnf) | (refine seg_here ?_; conv => whnf) | (refine both ?_ ?_ <;> conv => whnf))
  refine loopE (fun _ : Nat => ⟨28, [(0, .lst []), (2, .int .i64 0), (3, .int .i64 (-1))], []⟩) (fun _ => True) (fun k => k) 0 hE ?_ ?_ trivial ?_
  · kernel_rfl
  · exact at_keep [0, 2, 3] rfl
  intro i _
  conv => whnf
  repeat' (first | (refine brd_t (by first | assumption | omega) ?_; conv => whnf) | (refine brd_f (by first | assumption | omega) ?_; conv => whnf) | (refine ask (by first | assumption | omega) ?_; conv => whnf) | (refine fit64 (by omega) ?_; conv => whnf) | (refine fit (by simp only [kmin, kmax]; omega) ?_; conv => whnf) | (refine br_t (by assumption) ?_; conv => whnf) | (refine br_f (by assumption) ?_; conv => whnf) | (refine get_of (by assumption) ?_; conv => whnf) | (refine get_map (by assumption) ?_; conv => whnf) | (refine draw_lex hE ?_ ?_; decide +kernel; conv => whnf) | (refine draw_any hE [⟨0, [(0, none), (1, none), (2, none), (3, none), (4, none), (5, none), (6, none), (7, none), (8, none), (9, none), (10, none), (11, none), (12, none)], some 13, [2, 3], [[], [2], [3], [2, 3]]⟩, ⟨0, [(14, none)], some 15, [], [[]]⟩] ?_ ?_; decide +kernel; conv => whnf) | (refine brd (fun h => ?_) (fun h => ?_) <;> conv => whnf) | (refine br (fun h => ?_) (fun h => ?_) <;> conv => whnf) | (refine ret_now hE ?_; conv => whnf) | (intro hlen; conv => whnf) | (refine seg_here ?_; conv => whnf) | (refine both ?_ ?_ <;> conv => whnf))
  all_goals exact ⟨rfl, rfl⟩
def invV (x : Except Int (List Nd × List Ch)) : V := match x with
  | .ok (_, bs) => .tup [.lst (bs.reverse.map chA), .int .i64 0]
  | .error e => .tup [.lst [], .int .i64 e]
set_option maxHeartbeats 8000000 in
theorem walk_Invert (l : List Nd) (hl : gL 0 l) (cs : List Ch) (hc : ∀ c ∈ cs, gN 0 c.node ∧ c.path.length * 8 ≤ 140737488351232) (hb : ∀ x bs, playR l cs = .ok (x, bs) → bs.length ≤ 40) : Fn1 Try.prog 5 [.lst (nodesL l), .lst (cs.map chA)] (fun r => r = invV (playR l cs)) := by
  have h2 := rev_nil
  have h1' := walk_play l hl cs hc
  refine fn1_nl ?_
  cases hR : playR l cs with
  | error e =>
    rw [hR] at h1'
    simp only [playV] at h1'
    refine fn1E (T := Try.tt) Try.func5 rfl tt_all follows_all ?_ ?_ fun C hC hE => ?_
    · kernel_rfl
    · exact Nat.le_of_ble_eq_true (by kernel_rfl)
    conv => whnf
    repeat' (first | (refine brd_t (by first | assumption | omega) ?_; conv => whnf) | (refine brd_f (by first | assumption | omega) ?_; conv => whnf) | (refine ask (by first | assumption | omega) ?_; conv => whnf) | (refine fit64 (by omega) ?_; conv => whnf) | (refine fit (by simp only [kmin, kmax]; omega) ?_; conv => whnf) | (refine br_t (by assumption) ?_; conv => whnf) | (refine br_f (by assumption) ?_; conv => whnf) | (refine get_of (by assumption) ?_; conv => whnf) | (refine get_map (by assumption) ?_; conv => whnf) | (refine call_eq (h1') hC hasBody_10 ?_ ?_ ?_; kernel_rfl; kernel_rfl; conv => whnf) | (refine callq_eq (h1') hC hasBody_10 ?_ ?_ ?_; kernel_rfl; kernel_rfl; conv => whnf) | (refine call_eq (h2) hC hasBody_11 ?_ ?_ ?_; kernel_rfl; kernel_rfl; conv => whnf) | (refine callq_eq (h2) hC hasBody_11 ?_ ?_ ?_; kernel_rfl; kernel_rfl; conv => whnf) | (refine draw_lex hE ?_ ?_; decide +kernel; conv => whnf) | (refine brd (fun h => ?_) (fun h => ?_) <;> conv => whnf) | (refine br (fun h => ?_) (fun h => ?_) <;> conv => whnf) | (refine ret_now hE ?_; conv => whnf) | (intro hlen; conv => whnf) | (refine seg_here ?_; conv => whnf) | (refine both ?_ ?_ <;> conv => whnf))
    all_goals exact ⟨rfl, by simp [V.nl, nlL, invV]⟩
  | ok p =>
    obtain ⟨x, bs⟩ := p
    by_cases h0 : 0 < bs.length
    · have h1 := h_play l hl cs hc
      rw [hR] at h1
      have h1 : HFn Try.prog 10 [.lst (nodesL l), .lst (cs.map chA)] [.row 6 []] [] (fun r o => r = .tup [.lst (nodesL x), .sl 0 0 bs.length, .int .i64 0] ∧ o = [.row 6 (bs.map chA)]) := h1
      have h3 := h_reverse bs (hb x bs hR) h0
      have hlr : (bs.reverse.map chA).length = bs.length := by simp
      refine fn1E (T := Try.tt) Try.func5 rfl tt_all follows_all ?_ ?_ fun C hC hE => ?_
      · kernel_rfl
      · exact Nat.le_of_ble_eq_true (by kernel_rfl)
      conv => whnf
      repeat' (first | (refine brd_t (by first | assumption | omega) ?_; conv => whnf) | (refine brd_f (by first | assumption | omega) ?_; conv => whnf) | (refine ask (by first | assumption | omega) ?_; conv => whnf) | (refine fit64 (by omega) ?_; conv => whnf) | (refine fit (by simp only [kmin, kmax]; omega) ?_; conv => whnf) | (refine br_t (by assumption) ?_; conv => whnf) | (refine br_f (by assumption) ?_; conv => whnf) | (refine get_of (by assumption) ?_; conv => whnf) | (refine get_map (by assumption) ?_; conv => whnf) | (refine call_up (up_new 6 (up_here ?_)); (conv => whnf); refine call_freshT h1 hC hasBody_10 0 rfl ?_ rfl (chA_nr _) ?_; exact rnL_self ⟨trivial, trivial, trivial⟩; conv => whnf) | (refine call_ownK h3 hC hasBody_11 0 rfl trivial trivial rfl (chA_nr _) (chA_nr _) ?_; conv => whnf) | (refine ret_up (up_frzK 0 4 [5] rfl ?_ rfl ?_ rfl (up_here ?_)); (exact chA_nr _); (exact hlr.symm)) | (refine draw_lex hE ?_ ?_; decide +kernel; conv => whnf) | (refine brd (fun h => ?_) (fun h => ?_) <;> conv => whnf) | (refine br (fun h => ?_) (fun h => ?_) <;> conv => whnf) | (refine ret_now hE ?_; conv => whnf) | (intro hlen; conv => whnf) | (refine seg_here ?_; conv => whnf) | (refine both ?_ ?_ <;> conv => whnf))
      all_goals exact ⟨rfl, by simp only [V.nl, nlL, invV, nl_chs]⟩
    · have hbs : bs = [] := List.eq_nil_of_length_eq_zero (by omega)
      subst hbs
      rw [hR] at h1'
      simp only [playV, List.map_nil] at h1'
      refine fn1E (T := Try.tt) Try.func5 rfl tt_all follows_all ?_ ?_ fun C hC hE => ?_
      · kernel_rfl
      · exact Nat.le_of_ble_eq_true (by kernel_rfl)
      conv => whnf
      repeat' (first | (refine brd_t (by first | assumption | omega) ?_; conv => whnf) | (refine brd_f (by first | assumption | omega) ?_; conv => whnf) | (refine ask (by first | assumption | omega) ?_; conv => whnf) | (refine fit64 (by omega) ?_; conv => whnf) | (refine fit (by simp only [kmin, kmax]; omega) ?_; conv => whnf) | (refine br_t (by assumption) ?_; conv => whnf) | (refine br_f (by assumption) ?_; conv => whnf) | (refine get_of (by assumption) ?_; conv => whnf) | (refine get_map (by assumption) ?_; conv => whnf) | (refine call_eq (h1') hC hasBody_10 ?_ ?_ ?_; kernel_rfl; kernel_rfl; conv => whnf) | (refine callq_eq (h1') hC hasBody_10 ?_ ?_ ?_; kernel_rfl; kernel_rfl; conv => whnf) | (refine call_eq (h2) hC hasBody_11 ?_ ?_ ?_; kernel_rfl; kernel_rfl; conv => whnf) | (refine callq_eq (h2) hC hasBody_11 ?_ ?_ ?_; kernel_rfl; kernel_rfl; conv => whnf) | (refine draw_lex hE ?_ ?_; decide +kernel; conv => whnf) | (refine brd (fun h => ?_) (fun h => ?_) <;> conv => whnf) | (refine br (fun h => ?_) (fun h => ?_) <;> conv => whnf) | (refine ret_now hE ?_; conv => whnf) | (intro hlen; conv => whnf) | (refine seg_here ?_; conv => whnf) | (refine both ?_ ?_ <;> conv => whnf))
      all_goals exact ⟨rfl, by simp [V.nl, nlL, invV]⟩
theorem inv_doc (l : List Nd) (cs : List Ch) : invV (playR l cs) = docI l cs := by
  unfold docI
  have hd := doc_X l cs
  cases hD : docP l cs with
  | error e =>
    rw [hD] at hd
    simp only at hd
    unfold playX at hd
    cases hR : playR l cs with
    | error e2 =>
      rw [hR] at hd
      injection hd with hd
      subst hd
      rfl
    | ok p =>
      rw [hR] at hd
      obtain ⟨x, bs⟩ := p
      injection hd
  | ok all =>
    unfold docP at hD
    by_cases h : 40 < cs.length
    · rw [if_pos h] at hD; injection hD
    · rw [if_neg h] at hD
      obtain ⟨x, h1, _, _⟩ := play_back cs [] l [] all hD
      unfold playR
      rw [if_neg h, h1]
      rfl
theorem play_len (l : List Nd) (cs : List Ch) : ∀ x bs, playR l cs = .ok (x, bs) → bs.length ≤ 40 := by
  intro x bs hR
  have hi := inv_doc l cs
  unfold playR at hR
  by_cases h : 40 < cs.length
  · rw [if_pos h] at hR; injection hR
  · rw [if_neg h] at hR
    have hd := play_doc cs [] l []
    cases hD : docA [] l cs with
    | error e =>
      rw [hD] at hd
      simp only at hd
      rw [hd] at hR
      injection hR
    | ok all =>
      obtain ⟨y, h1, _, _⟩ := play_back cs [] l [] all hD
      rw [h1] at hR
      injection hR with hR
      injection hR with hx hb
      rw [← hb, List.nil_append, fwd_len]
      omega
end Go.Proofs.Ytkkcmobnhiiacaa

/-! The document's SameChanges, walked. No conditions. -/
namespace Go.Proofs.Ytkkcmobnhiiacaa
open Go.RowKit

set_option maxHeartbeats 8000000 in
theorem same_changes (cs : List Ch) : Fn1 Try.prog 7 [.lst (cs.map chA), .lst (cs.map chA)] (fun r => r = .bool true) := by
  have hcm : (cs.map chA).length = cs.length := by simp
  refine fn1E (T := Try.tt) Try.func7 rfl tt_all follows_all ?_ ?_ fun C hC hE => ?_
  · kernel_rfl
  · exact Nat.le_of_ble_eq_true (by kernel_rfl)
  conv => whnf
  repeat' (first | (refine brd_t (by first | assumption | omega) ?_; conv => whnf) | (refine brd_f (by first | assumption | omega) ?_; conv => whnf) | (refine ask (by first | assumption | omega) ?_; conv => whnf) | (refine fit64 (by omega) ?_; conv => whnf) | (refine fit (by simp only [kmin, kmax]; omega) ?_; conv => whnf) | (refine br_t (by assumption) ?_; conv => whnf) | (refine br_f (by assumption) ?_; conv => whnf) | (refine get_of (by assumption) ?_; conv => whnf) | (refine get_map (by assumption) ?_; conv => whnf) | (refine draw_lex hE ?_ ?_; decide +kernel; conv => whnf) | (refine draw_any hE [⟨2, [(0, none), (1, none), (2, none), (3, none), (4, none), (5, none), (6, none), (7, none), (8, none), (9, none), (10, none), (11, none), (12, none), (13, none), (14, none), (15, none), (16, none), (17, none), (18, none), (19, none), (20, none), (21, none), (22, none), (23, none), (24, none), (25, none), (26, none), (27, none), (28, none), (29, none), (30, none), (31, none), (33, none), (34, none), (35, none), (36, none), (37, none), (32, some 0), (38, some 1), (39, none), (40, none), (41, none)], none, [], [[]]⟩] ?_ ?_; decide +kernel; conv => whnf) | (refine draw_any hE [⟨0, [(0, none), (1, none), (2, none), (3, none), (4, none), (5, none), (6, none), (7, none), (8, none), (9, none), (10, none), (11, none), (12, none), (13, none), (14, none), (15, none), (16, none)], none, [], [[]]⟩] ?_ ?_; decide +kernel; conv => whnf) | (refine brd (fun h => ?_) (fun h => ?_) <;> conv => whnf) | (refine br (fun h => ?_) (fun h => ?_) <;> conv => whnf) | (refine ret_now hE ?_; conv => whnf) | (intro hlen; conv => whnf) | (refine seg_here ?_; conv => whnf) | (refine both ?_ ?_ <;> conv => whnf))
  refine loopE (fun k : Nat => ⟨87, [(0, .lst (cs.map chA)), (1, .lst (cs.map chA)), (13, .int .i64 (cs.map chA).length), (14, .int .i64 k)], []⟩) (fun k => k ≤ cs.length) (fun k => cs.length - k) 0 hE ?_ ?_ (Nat.zero_le _) ?_
  · kernel_rfl
  · exact at_keep [0, 1, 13, 14] rfl
  intro k hk
  by_cases hlt : k < cs.length
  · obtain ⟨kd, p, n, a, t, ps, hx, hx'⟩ := chs_at hlt
    have h3 := same_nodes _ [.mk n a t ps] (Nat.le_refl _)
    simp only [nodesL, nodeA_mk] at h3
    have hpm : (p.map (V.int .i64)).length = p.length := by simp
    conv => whnf
    repeat' (first | (refine brd_t (by first | assumption | omega) ?_; conv => whnf) | (refine brd_f (by first | assumption | omega) ?_; conv => whnf) | (refine ask (by first | assumption | omega) ?_; conv => whnf) | (refine fit64 (by omega) ?_; conv => whnf) | (refine fit (by simp only [kmin, kmax]; omega) ?_; conv => whnf) | (refine br_t (by assumption) ?_; conv => whnf) | (refine br_f (by assumption) ?_; conv => whnf) | (refine get_of (by assumption) ?_; conv => whnf) | (refine get_map (by assumption) ?_; conv => whnf) | (refine callq_lend2 0 1 h3 hC hasBody_14 Nat.one_ne_zero rfl rfl ?_ ?_ rfl rfl rfl rfl ?_; exact ⟨⟨trivial, trivial, trivial, trivial, trivial⟩, trivial⟩; exact ⟨⟨trivial, trivial, trivial, trivial, trivial⟩, trivial⟩; conv => whnf) | (refine draw_lex hE ?_ ?_; decide +kernel; conv => whnf) | (refine draw_any hE [⟨2, [(0, none), (1, none), (2, none), (3, none), (4, none), (5, none), (6, none), (7, none), (8, none), (9, none), (10, none), (11, none), (12, none), (13, none), (14, none), (15, none), (16, none), (17, none), (18, none), (19, none), (20, none), (21, none), (22, none), (23, none), (24, none), (25, none), (26, none), (27, none), (28, none), (29, none), (30, none), (31, none), (33, none), (34, none), (35, none), (36, none), (37, none), (32, some 0), (38, some 1), (39, none), (40, none), (41, none)], none, [], [[]]⟩] ?_ ?_; decide +kernel; conv => whnf) | (refine draw_any hE [⟨0, [(0, none), (1, none), (2, none), (3, none), (4, none), (5, none), (6, none), (7, none), (8, none), (9, none), (10, none), (11, none), (12, none), (13, none), (14, none), (15, none), (16, none)], none, [], [[]]⟩] ?_ ?_; decide +kernel; conv => whnf) | (refine brd (fun h => ?_) (fun h => ?_) <;> conv => whnf) | (refine br (fun h => ?_) (fun h => ?_) <;> conv => whnf) | (refine ret_now hE ?_; conv => whnf) | (intro hlen; conv => whnf) | (refine seg_here ?_; conv => whnf) | (refine both ?_ ?_ <;> conv => whnf))
    refine loopE (fun q : Nat => ⟨87, [(0, .lst (cs.map chA)), (1, .lst (cs.map chA)), (5, .int .i64 k), (13, .int .i64 (cs.map chA).length), (14, .int .i64 k), (64, .int .i64 (p.map (V.int .i64)).length), (65, .int .i64 q)], []⟩) (fun q => q ≤ p.length) (fun q => p.length - q) 0 hE ?_ ?_ (Nat.zero_le _) ?_
    · kernel_rfl
    · exact at_wipe [0, 1, 5, 13, 14, 64, 65] rfl rfl
    intro q hq
    by_cases hqt : q < p.length
    · have hpq : (p.map (V.int .i64))[q]? = some (.int .i64 p[q]) := by rw [List.getElem?_map, List.getElem?_eq_getElem hqt]; rfl
      conv => whnf
      repeat' (first | (refine brd_t (by first | assumption | omega) ?_; conv => whnf) | (refine brd_f (by first | assumption | omega) ?_; conv => whnf) | (refine ask (by first | assumption | omega) ?_; conv => whnf) | (refine fit64 (by omega) ?_; conv => whnf) | (refine fit (by simp only [kmin, kmax]; omega) ?_; conv => whnf) | (refine br_t (by assumption) ?_; conv => whnf) | (refine br_f (by assumption) ?_; conv => whnf) | (refine get_of (by assumption) ?_; conv => whnf) | (refine get_map (by assumption) ?_; conv => whnf) | (refine draw_lex hE ?_ ?_; decide +kernel; conv => whnf) | (refine draw_any hE [⟨2, [(0, none), (1, none), (2, none), (3, none), (4, none), (5, none), (6, none), (7, none), (8, none), (9, none), (10, none), (11, none), (12, none), (13, none), (14, none), (15, none), (16, none), (17, none), (18, none), (19, none), (20, none), (21, none), (22, none), (23, none), (24, none), (25, none), (26, none), (27, none), (28, none), (29, none), (30, none), (31, none), (33, none), (34, none), (35, none), (36, none), (37, none), (32, some 0), (38, some 1), (39, none), (40, none), (41, none)], none, [], [[]]⟩] ?_ ?_; decide +kernel; conv => whnf) | (refine draw_any hE [⟨0, [(0, none), (1, none), (2, none), (3, none), (4, none), (5, none), (6, none), (7, none), (8, none), (9, none), (10, none), (11, none), (12, none), (13, none), (14, none), (15, none), (16, none)], none, [], [[]]⟩] ?_ ?_; decide +kernel; conv => whnf) | (refine brd (fun h => ?_) (fun h => ?_) <;> conv => whnf) | (refine br (fun h => ?_) (fun h => ?_) <;> conv => whnf) | (refine ret_now hE ?_; conv => whnf) | (intro hlen; conv => whnf) | (refine seg_here ?_; conv => whnf) | (refine both ?_ ?_ <;> conv => whnf))
      refine next_keep [0, 1, 5, 13, 14, 64, 65] (q + 1) (show q + 1 ≤ p.length by omega) (show p.length - (q + 1) < p.length - q by omega) ?_
      rfl
    · conv => whnf
      repeat' (first | (refine brd_t (by first | assumption | omega) ?_; conv => whnf) | (refine brd_f (by first | assumption | omega) ?_; conv => whnf) | (refine ask (by first | assumption | omega) ?_; conv => whnf) | (refine fit64 (by omega) ?_; conv => whnf) | (refine fit (by simp only [kmin, kmax]; omega) ?_; conv => whnf) | (refine br_t (by assumption) ?_; conv => whnf) | (refine br_f (by assumption) ?_; conv => whnf) | (refine get_of (by assumption) ?_; conv => whnf) | (refine get_map (by assumption) ?_; conv => whnf) | (refine draw_lex hE ?_ ?_; decide +kernel; conv => whnf) | (refine draw_any hE [⟨2, [(0, none), (1, none), (2, none), (3, none), (4, none), (5, none), (6, none), (7, none), (8, none), (9, none), (10, none), (11, none), (12, none), (13, none), (14, none), (15, none), (16, none), (17, none), (18, none), (19, none), (20, none), (21, none), (22, none), (23, none), (24, none), (25, none), (26, none), (27, none), (28, none), (29, none), (30, none), (31, none), (33, none), (34, none), (35, none), (36, none), (37, none), (32, some 0), (38, some 1), (39, none), (40, none), (41, none)], none, [], [[]]⟩] ?_ ?_; decide +kernel; conv => whnf) | (refine draw_any hE [⟨0, [(0, none), (1, none), (2, none), (3, none), (4, none), (5, none), (6, none), (7, none), (8, none), (9, none), (10, none), (11, none), (12, none), (13, none), (14, none), (15, none), (16, none)], none, [], [[]]⟩] ?_ ?_; decide +kernel; conv => whnf) | (refine brd (fun h => ?_) (fun h => ?_) <;> conv => whnf) | (refine br (fun h => ?_) (fun h => ?_) <;> conv => whnf) | (refine ret_now hE ?_; conv => whnf) | (intro hlen; conv => whnf) | (refine seg_here ?_; conv => whnf) | (refine both ?_ ?_ <;> conv => whnf))
      refine next_keep [0, 1, 13, 14] (k + 1) (show k + 1 ≤ cs.length by omega) (show cs.length - (k + 1) < cs.length - k by omega) ?_
      rfl
  · conv => whnf
    repeat' (first | (refine brd_t (by first | assumption | omega) ?_; conv => whnf) | (refine brd_f (by first | assumption | omega) ?_; conv => whnf) | (refine ask (by first | assumption | omega) ?_; conv => whnf) | (refine fit64 (by omega) ?_; conv => whnf) | (refine fit (by simp only [kmin, kmax]; omega) ?_; conv => whnf) | (refine br_t (by assumption) ?_; conv => whnf) | (refine br_f (by assumption) ?_; conv => whnf) | (refine get_of (by assumption) ?_; conv => whnf) | (refine get_map (by assumption) ?_; conv => whnf) | (refine draw_lex hE ?_ ?_; decide +kernel; conv => whnf) | (refine draw_any hE [⟨2, [(0, none), (1, none), (2, none), (3, none), (4, none), (5, none), (6, none), (7, none), (8, none), (9, none), (10, none), (11, none), (12, none), (13, none), (14, none), (15, none), (16, none), (17, none), (18, none), (19, none), (20, none), (21, none), (22, none), (23, none), (24, none), (25, none), (26, none), (27, none), (28, none), (29, none), (30, none), (31, none), (33, none), (34, none), (35, none), (36, none), (37, none), (32, some 0), (38, some 1), (39, none), (40, none), (41, none)], none, [], [[]]⟩] ?_ ?_; decide +kernel; conv => whnf) | (refine draw_any hE [⟨0, [(0, none), (1, none), (2, none), (3, none), (4, none), (5, none), (6, none), (7, none), (8, none), (9, none), (10, none), (11, none), (12, none), (13, none), (14, none), (15, none), (16, none)], none, [], [[]]⟩] ?_ ?_; decide +kernel; conv => whnf) | (refine brd (fun h => ?_) (fun h => ?_) <;> conv => whnf) | (refine br (fun h => ?_) (fun h => ?_) <;> conv => whnf) | (refine ret_now hE ?_; conv => whnf) | (intro hlen; conv => whnf) | (refine seg_here ?_; conv => whnf) | (refine both ?_ ?_ <;> conv => whnf))
    all_goals exact ⟨rfl, rfl⟩
end Go.Proofs.Ytkkcmobnhiiacaa

/-! The law WalkInverts. No conditions. (Not built: InvS, same_changes, is lacking.) -/
namespace Go.Proofs.Ytkkcmobnhiiacaa
open Go.RowKit

theorem walkInverts_law (l : List Nd) (hl : gL 0 l) (cs : List Ch) (hc : ∀ c ∈ cs, gN 0 c.node ∧ c.path.length * 8 ≤ 140737488351232) : Fn1 Try.prog 3 [.lst (nodesL l), .lst (cs.map chA)] (fun r => r = .bool true) := by
  have h1 := walk_Invert l hl cs hc (play_len l cs)
  have h2 := ref_Invert l hl cs hc
  rw [inv_doc] at h1
  unfold docI at h1 h2
  cases hX : docP l cs with
  | error e =>
    rw [hX] at h1 h2
    simp only at h1 h2
    have h3 := same_changes []
    simp only [List.map_nil] at h3
    refine fn1E (T := Try.tt) Try.func3 rfl tt_all follows_all ?_ ?_ fun C hC hE => ?_
    · kernel_rfl
    · exact Nat.le_of_ble_eq_true (by kernel_rfl)
    conv => whnf
    repeat' (first | (refine brd_t (by first | assumption | omega) ?_; conv => whnf) | (refine brd_f (by first | assumption | omega) ?_; conv => whnf) | (refine ask (by first | assumption | omega) ?_; conv => whnf) | (refine fit64 (by omega) ?_; conv => whnf) | (refine fit (by simp only [kmin, kmax]; omega) ?_; conv => whnf) | (refine br_t (by assumption) ?_; conv => whnf) | (refine br_f (by assumption) ?_; conv => whnf) | (refine get_of (by assumption) ?_; conv => whnf) | (refine get_map (by assumption) ?_; conv => whnf) | (refine call_eq (h1) hC hasBody_5 ?_ ?_ ?_; kernel_rfl; kernel_rfl; conv => whnf) | (refine callq_eq (h1) hC hasBody_5 ?_ ?_ ?_; kernel_rfl; kernel_rfl; conv => whnf) | (refine call_eq (h2) hC hasBody_6 ?_ ?_ ?_; kernel_rfl; kernel_rfl; conv => whnf) | (refine callq_eq (h2) hC hasBody_6 ?_ ?_ ?_; kernel_rfl; kernel_rfl; conv => whnf) | (refine call_eq (h3) hC hasBody_7 ?_ ?_ ?_; kernel_rfl; kernel_rfl; conv => whnf) | (refine callq_eq (h3) hC hasBody_7 ?_ ?_ ?_; kernel_rfl; kernel_rfl; conv => whnf) | (refine draw_lex hE ?_ ?_; decide +kernel; conv => whnf) | (refine brd (fun h => ?_) (fun h => ?_) <;> conv => whnf) | (refine br (fun h => ?_) (fun h => ?_) <;> conv => whnf) | (refine ret_now hE ?_; conv => whnf) | (intro hlen; conv => whnf) | (refine seg_here ?_; conv => whnf) | (refine both ?_ ?_ <;> conv => whnf))
    all_goals exact ⟨rfl, rfl⟩
  | ok all =>
    rw [hX] at h1 h2
    simp only at h1 h2
    have h3 := same_changes (fwdF all 0 cs).reverse
    refine fn1E (T := Try.tt) Try.func3 rfl tt_all follows_all ?_ ?_ fun C hC hE => ?_
    · kernel_rfl
    · exact Nat.le_of_ble_eq_true (by kernel_rfl)
    conv => whnf
    repeat' (first | (refine brd_t (by first | assumption | omega) ?_; conv => whnf) | (refine brd_f (by first | assumption | omega) ?_; conv => whnf) | (refine ask (by first | assumption | omega) ?_; conv => whnf) | (refine fit64 (by omega) ?_; conv => whnf) | (refine fit (by simp only [kmin, kmax]; omega) ?_; conv => whnf) | (refine br_t (by assumption) ?_; conv => whnf) | (refine br_f (by assumption) ?_; conv => whnf) | (refine get_of (by assumption) ?_; conv => whnf) | (refine get_map (by assumption) ?_; conv => whnf) | (refine call_eq (h1) hC hasBody_5 ?_ ?_ ?_; kernel_rfl; kernel_rfl; conv => whnf) | (refine callq_eq (h1) hC hasBody_5 ?_ ?_ ?_; kernel_rfl; kernel_rfl; conv => whnf) | (refine call_eq (h2) hC hasBody_6 ?_ ?_ ?_; kernel_rfl; kernel_rfl; conv => whnf) | (refine callq_eq (h2) hC hasBody_6 ?_ ?_ ?_; kernel_rfl; kernel_rfl; conv => whnf) | (refine call_eq (h3) hC hasBody_7 ?_ ?_ ?_; kernel_rfl; kernel_rfl; conv => whnf) | (refine callq_eq (h3) hC hasBody_7 ?_ ?_ ?_; kernel_rfl; kernel_rfl; conv => whnf) | (refine draw_lex hE ?_ ?_; decide +kernel; conv => whnf) | (refine brd (fun h => ?_) (fun h => ?_) <;> conv => whnf) | (refine br (fun h => ?_) (fun h => ?_) <;> conv => whnf) | (refine ret_now hE ?_; conv => whnf) | (intro hlen; conv => whnf) | (refine seg_here ?_; conv => whnf) | (refine both ?_ ?_ <;> conv => whnf))
    all_goals exact ⟨rfl, rfl⟩
end Go.Proofs.Ytkkcmobnhiiacaa
