/- The functions that the law TreeCounts reaches, walked. No conditions. -/
import Derived.Test.YteabokphchpifaaNode
namespace Go.Proofs.Yteabokphchpifaa
open Go.RowKit

mutual
def cntN : Nd → Nat
  | .mk _ _ _ ps => 1 + cntL ps
def cntL : List Nd → Nat
  | [] => 0
  | n :: ns => cntN n + cntL ns
end
mutual
def depN : Nd → Nat
  | .mk _ _ _ ps => 1 + depL ps
def depL : List Nd → Nat
  | [] => 0
  | n :: ns => max (depN n) (depL ns)
end
theorem cntN_eq (n : Nd) : cntN n = 1 + cntL n.parts := by cases n; simp [cntN, Nd.parts]
theorem depN_eq (n : Nd) : depN n = 1 + depL n.parts := by cases n; simp [depN, Nd.parts]
theorem cntL_app : ∀ a b, cntL (a ++ b) = cntL a + cntL b
  | [], b => by simp [cntL]
  | n :: a, b => by simp only [List.cons_append, cntL, cntL_app a b]; omega
theorem depL_app : ∀ a b, depL (a ++ b) = max (depL a) (depL b)
  | [], b => by simp [depL]
  | n :: a, b => by simp only [List.cons_append, depL, depL_app a b]; omega
theorem szP {n : Nd} : szL n.parts < szN n := by rw [szN_eq, szL_sum]; omega
theorem maxI_nat (a b : Nat) : maxI (a : Int) (b : Int) = ((max a b : Nat) : Int) := by unfold maxI; split <;> omega
theorem szM {ps : List Nd} {n : Nd} (h : n ∈ ps) : szN n ≤ szL ps := by rw [szL_sum]; exact mem_sum szN ps n h
mutual
theorem cntN_sz : ∀ n, cntN n ≤ szN n
  | .mk n a t ps => by have := cntL_sz ps; simp [cntN, szN, szS]; omega
theorem cntL_sz : ∀ ps, cntL ps ≤ szL ps
  | [] => by simp [cntL, szL]
  | n :: ns => by have := cntN_sz n; have := cntL_sz ns; simp [cntL, szL]; omega
end
mutual
theorem depN_cnt : ∀ n, depN n ≤ cntN n
  | .mk n a t ps => by have := depL_cnt ps; simp [cntN, depN]; omega
theorem depL_cnt : ∀ ps, depL ps ≤ cntL ps
  | [] => by simp [cntL, depL]
  | n :: ns => by have := depN_cnt n; have := depL_cnt ns; simp [cntL, depL]; omega
end
theorem cnt_take {ps : List Nd} {k : Nat} {x : Nd} (hx : ps[k]? = some x) : cntL (ps.take (k + 1)) = cntL (ps.take k) + cntN x := by
  rw [List.take_add_one, hx, cntL_app]; simp [cntL]
theorem dep_take {ps : List Nd} {k : Nat} {x : Nd} (hx : ps[k]? = some x) : depL (ps.take (k + 1)) = max (depL (ps.take k)) (depN x) := by
  rw [List.take_add_one, hx, depL_app]; simp [depL]
theorem cnt_take_le {ps : List Nd} {k : Nat} : cntL (ps.take k) ≤ cntL ps := by
  have := cntL_app (ps.take k) (ps.drop k)
  rw [List.take_append_drop] at this
  omega
theorem dep_take_le {ps : List Nd} {k : Nat} : depL (ps.take k) ≤ depL ps := by
  have := depL_app (ps.take k) (ps.drop k)
  rw [List.take_append_drop] at this
  omega
theorem wrap_nat (n : Nat) (h : n ≤ 9223372036854775807) : IntKind.i64.wrap (n : Int) = n := wrap_in _ (by omega) (by omega)

def cntSt (ps : List Nd) (k : Nat) : List V := [nodesV ps, .any, .int .i64 (cntL (ps.take k)), .int .i64 (depL (ps.take k)), .any, .any, .any, .any, nodesV ps, .int .i64 ps.length, .int .i64 k, .any, .any, .any, .any, .any, .any, .any, .any, .any, .any, .any, .any, .any, .any, .any, .any, .any, .any, .any, .any]

set_option maxHeartbeats 1000000 in
theorem tree_count : ∀ (N : Nat) (ps : List Nd), szL ps ≤ N → N ≤ 1099511627776 → Fn1 Try.prog 18 [nodesV ps] (fun r => r = .tup [.int .i64 (cntL ps), .int .i64 (depL ps)]) := by
  intro N
  induction N using Nat.strongRecOn with
  | _ N ih =>
    intro ps hps hN
    have hc := cntL_sz ps
    have hd := depL_cnt ps
    refine fn1_walk Try.func18 rfl fun C hC => ?_
    simp only [Try.ntmps18, hC, nodesV, isSli_29, W_seq, W_reg, W_block, W_loop, ThenC_normal, AOps_nil, AOps_plain, S_move, S_assign, S_len, val_tmp, val_cint, PutK_eq, LenK_lst, true_and, put_ups, put_cons, look_nil, look_cons, ups_get, Nat.reduceLT, List.getD_cons_zero, List.getD_cons_succ, List.length_cons, List.length_nil, List.length_map, List.replicate, List.cons_append, List.nil_append, reduceCtorEq, Nat.reduceAdd, Nat.reduceSub, if_true, if_false, Nat.zero_add, Nat.reduceEqDiff]
    intro hl
    refine w_loop (fun σ => ∃ k : Nat, k ≤ ps.length ∧ σ = ⟨cntSt ps k, []⟩) (fun σ => ps.length - slotI 10 σ) ?_ ?_
    · exact up_to [0, 2, 3, 8, 9, 10] (cntSt ps 0) (by kernel_rfl) (up_intro ⟨0, Nat.zero_le _, rfl⟩)
    · rintro σ ⟨k, hk, rfl⟩
      by_cases hlt : k < ps.length
      · obtain ⟨x, hx⟩ : ∃ x, ps[k]? = some x := ⟨_, List.getElem?_eq_getElem hlt⟩
        have hw := wrap_succ k (by rw [maxLen_eq] at hl; omega)
        have hx4 := nodeC_eq x
        have hp1 := @szP x
        have hp2 := szM (List.mem_of_getElem? hx)
        have hp3 := cntL_sz x.parts
        have hp4 := depL_cnt x.parts
        have t1 := cnt_take hx
        have t2 := dep_take hx
        have t3 := @cnt_take_le ps (k + 1)
        rw [cntN_eq] at t1
        rw [depN_eq] at t2
        have w1 : IntKind.i64.wrap ((cntL x.parts : Int) + 1) = ((cntL x.parts + 1 : Nat) : Int) := by rw [show ((cntL x.parts : Int) + 1) = ((cntL x.parts + 1 : Nat) : Int) from rfl, wrap_nat _ (by omega)]
        have w2 : IntKind.i64.wrap ((cntL (ps.take k) : Int) + ((cntL x.parts + 1 : Nat) : Int)) = ((cntL (ps.take (k + 1)) : Nat) : Int) := by
          rw [show ((cntL (ps.take k) : Int) + ((cntL x.parts + 1 : Nat) : Int)) = ((cntL (ps.take (k + 1)) : Nat) : Int) by omega, wrap_nat _ (by omega)]
        have w3 : IntKind.i64.wrap ((depL x.parts : Int) + 1) = ((depL x.parts + 1 : Nat) : Int) := by rw [show ((depL x.parts : Int) + 1) = ((depL x.parts + 1 : Nat) : Int) from rfl, wrap_nat _ (by omega)]
        have w4 : maxI (depL (ps.take k)) ((depL x.parts + 1 : Nat) : Int) = ((depL (ps.take (k + 1)) : Nat) : Int) := by rw [maxI_nat]; omega
        simp only [hC, cntSt, nodesV, hlt, hx, hx4, ti_29, ei_29, ti_41, fi_41_3, zv_41, W_seq, W_reg, W_condK, W_block, W_exit, W_ret, W_skip, ThenC_normal, ThenC_exit, InB_exit_same, AOps_nil, AOps_plain, CondK_bool, S_move, S_assign, S_bin, S_idxAddr, S_fldAddr, S_load, S_store, S_alloc, S_call, val_tmp, put_none, row_eq, PutK_eq, true_and, and_true, put_ups, put_cons, look_nil, look_cons, ups_get, hset_zero, single_set, Nat.reduceLT, List.getD_cons_zero, List.getD_cons_succ, List.length_cons, List.length_nil, List.nil_append, IdxAddr_lst, FldAddr_ptr, Load_rp, Load_ptr, Store_ptr, Alloc_eq, call_up, ex_map_get, cells_agg, mkV_one, mkV_agg, fresh_nil, putOb_nil, one_agg, Option.some.injEq, exists_eq_left', Int.toNat_natCast, Int.natCast_nonneg, Int.ofNat_lt, decide_true, List.take_succ_cons, List.take_zero, List.drop_zero, List.drop_succ_cons, List.getElem?_cons_zero, ne_eq, not_false_eq_true, implies_true, reduceCtorEq, forall_const, false_implies, Nat.reduceAdd, Nat.le_refl, if_true, if_false, setCells_agg, List.length_append, List.append_nil, Nat.zero_add, Nat.add_zero, Nat.reduceEqDiff, BinX_lss]
        refine call1 hC [] [nodesV x.parts] hasBody_18 (ih (szL x.parts) (by omega) x.parts (Nat.le_refl _) (by omega)) (by kernel_rfl) (by kernel_rfl) ⟨trivial, trivial⟩ ?_
        rintro r rfl
        simp only [hC, hw, w1, w2, w3, w4, W_seq, W_reg, ThenC_normal, InB_normal, AOps_nil, AOps_plain, S_move, S_assign, S_bin, S_extr, val_tmp, val_cint, PutK_eq, Extr_tup, true_and, put_ups, look_nil, look_cons, ups_get, Nat.reduceLT, List.getD_cons_zero, List.getD_cons_succ, List.length_cons, List.length_nil, Option.some.injEq, exists_eq_left', List.getElem?_cons_zero, List.getElem?_cons_succ, Nat.reduceAdd, if_true, if_false, Nat.zero_add, Nat.reduceEqDiff, BinX_add, Max_int, S_max]
        exact up_to [0, 2, 3, 8, 9, 10] (cntSt ps (k + 1)) (by kernel_rfl) (up_clear (by simp [cntSt, nrL, V.nr, nodesV]) (up_intro ⟨⟨k + 1, hlt, rfl⟩, by show ps.length - (k + 1) < ps.length - k; omega⟩))
      · simp only [hC, cntSt, nodesV, hlt, ti_29, ei_29, ti_41, fi_41_3, zv_41, W_seq, W_reg, W_condK, W_block, W_exit, W_ret, W_skip, ThenC_normal, ThenC_exit, InB_exit_same, AOps_nil, AOps_plain, CondK_bool, S_move, S_assign, S_bin, S_idxAddr, S_fldAddr, S_load, S_store, S_alloc, S_call, val_tmp, put_none, row_eq, PutK_eq, true_and, put_ups, put_cons, look_nil, look_cons, ups_get, hset_zero, single_set, Nat.reduceLT, List.getD_cons_zero, List.getD_cons_succ, List.length_cons, List.length_nil, List.nil_append, IdxAddr_lst, FldAddr_ptr, Load_rp, Load_ptr, Store_ptr, Alloc_eq, call_up, ex_map_get, cells_agg, mkV_agg, fresh_nil, putOb_nil, one_agg, Option.some.injEq, exists_eq_left', Int.toNat_natCast, Int.natCast_nonneg, Int.ofNat_lt, decide_false, List.take_zero, List.getElem?_cons_zero, ne_eq, not_false_eq_true, implies_true, reduceCtorEq, forall_const, false_implies, Nat.reduceAdd, Nat.le_refl, if_true, if_false, Bool.false_eq_true, setCells_agg, List.length_append, Nat.zero_add, Nat.reduceEqDiff, BinX_lss]
        have e : ps.take k = ps := List.take_of_length_le (by omega)
        exact ret2u Try.results18 (x := .int .i64 (cntL (ps.take k))) (y := .int .i64 (depL (ps.take k))) rfl rfl trivial trivial (by rw [e])

theorem szL_app : ∀ a b, szL (a ++ b) = szL a + szL b
  | [], b => by simp [szL]
  | n :: a, b => by simp only [List.cons_append, szL, szL_app a b]; omega
theorem cnt_level : ∀ ps : List Nd, cntL ps = ps.length + cntL (ps.flatMap Nd.parts)
  | [] => by simp [cntL]
  | n :: ns => by rw [List.flatMap_cons, cntL_app, cntL, cntN_eq, cnt_level ns, List.length_cons]; omega
theorem dep_level : ∀ ps : List Nd, depL ps = if ps = [] then 0 else 1 + depL (ps.flatMap Nd.parts)
  | [] => by simp [depL]
  | n :: ns => by
    rw [if_neg (by simp), List.flatMap_cons, depL_app, depL, depN_eq, dep_level ns]
    split
    · rename_i h; subst h; simp [depL]
    · omega
theorem sz_level : ∀ ps : List Nd, szL (ps.flatMap Nd.parts) ≤ szL ps
  | [] => by simp [szL]
  | n :: ns => by rw [List.flatMap_cons, szL_app, szL]; have := @szP n; have := sz_level ns; omega
theorem len_sz : ∀ ps : List Nd, ps.length ≤ szL ps
  | [] => by simp [szL]
  | n :: ns => by have := len_sz ns; simp only [List.length_cons, szL, szN_eq]; omega

def lvSt (cur : V) (c d : Nat) : List V := [cur, .any, .any, .any, .int .i64 c, .int .i64 d, .any, .any, .any, .any, .any, .any, .any, .any, .any, .any, .any, .any, .any, .any, .any, .any, .any, .any, .any, .any, .any, .any, .any, .any, .any, .any]
def lvIn (cur : List Nd) (c d k n : Nat) : List V := [nodesV cur, .any, .any, .any, .int .i64 c, .int .i64 d, .sl 0 0 n, .any, .any, .any, .any, .any, .any, .any, .any, .any, .any, .any, nodesV cur, .int .i64 cur.length, .int .i64 k, .any, .any, .any, .any, .any, .any, .any, .any, .any, .any, .any]

set_option maxHeartbeats 1000000 in
theorem tree_count_ref (ps : List Nd) (hsz : szL ps ≤ 1099511627776) : Fn1 Try.prog 19 [nodesV ps] (fun r => r = .tup [.int .i64 (cntL ps), .int .i64 (depL ps)]) := by
  have hc := cntL_sz ps
  have hd := depL_cnt ps
  refine fn1_walk Try.func19 rfl fun C hC => ?_
  simp only [Try.ntmps19, nodesV, W_seq, W_reg, W_block, W_loop, ThenC_normal, AOps_nil, AOps_plain, S_assign, val_cint, PutK_eq, put_ups, put_cons, List.length_cons, List.length_nil, List.replicate, List.cons_append, List.nil_append, Nat.reduceSub, Nat.zero_add]
  refine w_loop (fun σ => ∃ (cur : List Nd) (c d : Nat), c + cntL cur = cntL ps ∧ d + depL cur = depL ps ∧ szL cur ≤ szL ps ∧ σ = ⟨lvSt (nodesV cur) c d, []⟩) (fun σ => depL ps - slotI 5 σ) ?_ ?_
  · exact up_to [0, 4, 5] (lvSt (nodesV ps) 0 0) (by kernel_rfl) (up_intro ⟨ps, 0, 0, by omega, by omega, Nat.le_refl _, rfl⟩)
  · rintro σ ⟨cur, c, d, h1, h2, h3, rfl⟩
    have hl1 := len_sz cur
    have lv1 := cnt_level cur
    have lv2 := dep_level cur
    have lv3 := sz_level cur
    by_cases hne : cur = []
    · have h0 : ¬ (0 : Int) < cur.length := by rw [hne]; simp
      simp only [hC, lvSt, nodesV, h0, isSli_29, W_seq, W_reg, W_condK, W_block, W_loop, W_exit, W_ret, W_skip, ThenC_normal, ThenC_exit, InB_exit_same, AOps_nil, AOps_plain, CondK_bool, S_move, S_assign, S_bin, S_len, val_tmp, val_cint, val_cnil, PutK_eq, LenK_lst, true_and, put_ups, put_cons, look_nil, look_cons, ups_get, Nat.reduceLT, List.getD_cons_zero, List.getD_cons_succ, List.length_cons, List.length_nil, List.length_map, decide_false, reduceCtorEq, forall_const, false_implies, Nat.reduceAdd, if_true, if_false, Bool.false_eq_true, Nat.zero_add, Nat.reduceEqDiff, BinX_add, BinX_gtr]
      intro _
      rw [if_pos hne] at lv2
      rw [hne] at h1 lv1
      have e1 : c = cntL ps := by simp [cntL] at h1; omega
      have e2 : d = depL ps := by omega
      exact ret2u Try.results19 (x := .int .i64 c) (y := .int .i64 d) rfl rfl trivial trivial (by rw [e1, e2])
    · have hpos : (0 : Int) < cur.length := by
        have : cur.length ≠ 0 := fun h => hne (List.length_eq_zero_iff.1 h)
        omega
      rw [if_neg hne] at lv2
      have w1 : IntKind.i64.wrap ((d : Int) + 1) = ((d + 1 : Nat) : Int) := by rw [show ((d : Int) + 1) = ((d + 1 : Nat) : Int) from rfl, wrap_nat _ (by omega)]
      have w2 : IntKind.i64.wrap ((c : Int) + cur.length) = ((c + cur.length : Nat) : Int) := by rw [show ((c : Int) + cur.length) = ((c + cur.length : Nat) : Int) from rfl, wrap_nat _ (by omega)]
      simp only [hC, lvSt, nodesV, hpos, w1, w2, isSli_29, W_seq, W_reg, W_condK, W_block, W_loop, W_exit, W_ret, W_skip, ThenC_normal, ThenC_exit, InB_exit_same, AOps_nil, AOps_plain, CondK_bool, S_move, S_assign, S_bin, S_len, val_tmp, val_cint, val_cnil, PutK_eq, LenK_lst, true_and, and_true, put_ups, put_cons, look_nil, look_cons, ups_get, Nat.reduceLT, List.getD_cons_zero, List.getD_cons_succ, List.length_cons, List.length_nil, List.length_map, decide_true, reduceCtorEq, forall_const, false_implies, Nat.reduceAdd, if_true, if_false, Nat.zero_add, Nat.reduceEqDiff, BinX_add, BinX_gtr]
      intro hl _ _
      refine w_loop (fun σ => ∃ (k : Nat) (acc : List Nd), k ≤ cur.length ∧ acc = (cur.take k).flatMap Nd.parts ∧ σ = ⟨lvIn cur (c + cur.length) (d + 1) k acc.length, [some (.row 4 (acc.map fun n => .agg (nodeC n)))]⟩) (fun σ => cur.length - slotI 20 σ) ?_ ?_
      · exact up_adopt 6 4 (by kernel_rfl) (up_to [0, 4, 5, 6, 18, 19, 20] (lvIn cur (c + cur.length) (d + 1) 0 0) (by kernel_rfl) (up_intro ⟨0, [], Nat.zero_le _, rfl, rfl⟩))
      · rintro σ ⟨k, acc, hk, hacc, rfl⟩
        have htk : List.take acc.length (acc.map fun n => V.agg (nodeC n)) = acc.map fun n => V.agg (nodeC n) := List.take_of_length_le (by simp)
        by_cases hlt : k < cur.length
        · obtain ⟨x, hx⟩ : ∃ x, cur[k]? = some x := ⟨_, List.getElem?_eq_getElem hlt⟩
          have hw := wrap_succ k (by rw [maxLen_eq] at hl; omega)
          have hx4 := nodeC_eq x
          simp only [hC, lvIn, nodesV, hlt, hx, hx4, hw, htk, kill_nodes, killL_append, ti_29, ei_29, notInt_29, ti_41, fi_41_3, zv_41, zok_41, by_41, W_seq, W_reg, W_condK, W_block, W_exit, W_skip, ThenC_normal, ThenC_exit, InB_normal, InB_exit_same, AOps_nil, AOps_plain, CondK_bool, S_move, S_assign, S_bin, S_idxAddr, S_fldAddr, S_load, S_store, S_alloc, S_app, val_tmp, val_cint, put_none, row_eq, PutK_eq, true_and, and_true, put_ups, put_cons, look_nil, look_cons, ups_get, killU_nil, killU_cons, killL_ups, hset_zero, hset_succ, single_set, killL_nil, killL_cons, kill_any, kill_bool, kill_int, kill_str, kill_lst, kill_rp, kill_agg, kill_sl, kill_ptr, killH_nil, killH_some, killO_row, Nat.reduceLT, List.getD_cons_zero, List.getD_cons_succ, List.length_cons, List.length_nil, List.length_map, List.nil_append, IdxAddr_lst, FldAddr_ptr, Load_rp, Load_ptr, Store_ptr, Alloc_eq, App_eq, Src_lst, AppTo_sl, ex_map_get, cells_agg, mkV_one, mkV_agg, fresh_nil, fresh_some, putOb_nil, putOb_some, one_agg, Option.some.injEq, exists_eq_left', Int.toNat_natCast, Int.natCast_nonneg, Int.ofNat_lt, decide_true, List.take_succ_cons, List.take_zero, List.drop_zero, List.drop_succ_cons, List.getElem?_cons_zero, List.getElem?_cons_succ, ne_eq, not_false_eq_true, implies_true, reduceCtorEq, forall_const, false_implies, Nat.reduceAdd, Nat.le_refl, if_true, if_false, setCells_agg, List.length_append, List.append_nil, Nat.zero_add, Nat.add_zero, Nat.reduceEqDiff, Nat.one_ne_zero, BinX_add, BinX_lss]
          have hfl : (cur.take (k + 1)).flatMap Nd.parts = acc ++ x.parts := by rw [List.take_add_one, hx, List.flatMap_append, ← hacc]; simp
          have hln : acc.length + x.parts.length ≤ szL ps := by
            have q1 := len_sz ((cur.take (k + 1)).flatMap Nd.parts)
            have q2 := sz_level (cur.take (k + 1))
            have q3 := szL_app (cur.take (k + 1)) (cur.drop (k + 1))
            rw [List.take_append_drop] at q3
            rw [hfl] at q1 q2
            rw [List.length_append] at q1
            omega
          refine ⟨fun y hy => ?_, by rw [maxLen_eq]; omega, by omega, up_to [0, 4, 5, 6, 18, 19, 20] (lvIn cur (c + cur.length) (d + 1) (k + 1) (acc.length + x.parts.length)) (by kernel_rfl)
            (up_drop 1 (h' := [some (.row 4 (acc.map (fun n => .agg (nodeC n)) ++ x.parts.map fun n => .agg (nodeC n)))]) ?_ ?_ (up_intro ⟨⟨k + 1, acc ++ x.parts, hlt, hfl.symm, ?_⟩, ?_⟩))⟩
          · obtain ⟨n, _, rfl⟩ := List.mem_map.1 hy
            exact nodeC_len n
          · simp [lvIn, nodesV, killL, V.kill]
          · simp [killH, Ob.kill, killL_append, kill_nodes]
          · rw [List.length_append, List.map_append]; rfl
          · show cur.length - (k + 1) < cur.length - k
            omega
        · simp only [hC, lvIn, nodesV, hlt, ti_29, ei_29, notInt_29, ti_41, fi_41_3, zv_41, zok_41, W_seq, W_reg, W_condK, W_block, W_exit, W_skip, ThenC_normal, ThenC_exit, InB_normal, InB_exit_same, AOps_nil, AOps_plain, CondK_bool, S_move, S_assign, S_bin, S_idxAddr, S_fldAddr, S_load, S_store, S_alloc, S_app, val_tmp, put_none, row_eq, PutK_eq, true_and, put_ups, put_cons, look_nil, look_cons, ups_get, hset_zero, hset_succ, single_set, Nat.reduceLT, List.getD_cons_zero, List.getD_cons_succ, List.length_cons, List.length_nil, List.nil_append, IdxAddr_lst, FldAddr_ptr, Load_rp, Load_ptr, Store_ptr, Alloc_eq, App_eq, ex_map_get, cells_agg, mkV_agg, fresh_nil, fresh_some, putOb_nil, putOb_some, one_agg, Option.some.injEq, exists_eq_left', Int.toNat_natCast, Int.natCast_nonneg, Int.ofNat_lt, decide_false, List.take_zero, List.getElem?_cons_zero, List.getElem?_cons_succ, ne_eq, not_false_eq_true, implies_true, reduceCtorEq, forall_const, false_implies, Nat.reduceAdd, Nat.le_refl, if_true, if_false, Bool.false_eq_true, setCells_agg, List.length_append, Nat.zero_add, Nat.reduceEqDiff, BinX_lss]
          have hfl : acc = cur.flatMap Nd.parts := by rw [hacc, List.take_of_length_le (by omega)]
          refine up_to [0, 4, 5] (lvSt (.sl 0 0 acc.length) (c + cur.length) (d + 1)) (by kernel_rfl) (up_frz 0 (z := 4) (els := acc.map fun n => .agg (nodeC n)) (by rfl) (nodes_nr acc) ?_)
          simp only [lvSt, List.length_map, Nat.zero_add, Nat.le_refl, htk, frz_nodes, St.frz, frz_int, frz_any, frz_sl, frzL_nil, frzL_cons, frzH_nil, frzH_some, frzO_row, if_true, List.drop_zero, hset_zero]
          refine up_clear (by simp [nrL, V.nr]) (up_intro ⟨⟨acc, c + cur.length, d + 1, ?_, ?_, ?_, rfl⟩, ?_⟩)
          · rw [hfl]; omega
          · rw [hfl]; omega
          · rw [hfl]; omega
          · show depL ps - (d + 1) < depL ps - d
            omega

theorem treeCounts_law (ps : List Nd) (hsz : szL ps ≤ 1099511627776) : Fn1 Try.prog 5 [nodesV ps] (fun r => r = .bool true) := by
  refine fn1_walk Try.func5 rfl fun C hC => ?_
  simp only [Try.ntmps5, nodesV, W_seq, W_reg, ThenC_normal, AOps_nil, AOps_plain, S_move, S_assign, S_call, val_tmp, val_cbool, PutK_eq, put_ups, put_cons, look_nil, look_cons, ups_get, Nat.reduceLT, List.getD_cons_zero, List.length_cons, List.length_nil, List.replicate, List.cons_append, List.nil_append, call_up, reduceCtorEq, Nat.reduceAdd, Nat.reduceSub, if_true, if_false, Nat.zero_add]
  refine call1 hC [] [nodesV ps] hasBody_18 (tree_count _ ps (Nat.le_refl _) hsz) (by kernel_rfl) (by kernel_rfl) ⟨trivial, trivial⟩ ?_
  rintro r rfl
  simp only [W_seq, W_reg, ThenC_normal, AOps_nil, AOps_plain, S_move, S_assign, S_extr, S_call, val_tmp, PutK_eq, Extr_tup, put_ups, look_nil, look_cons, ups_get, Nat.reduceLT, List.getD_cons_zero, List.getD_cons_succ, List.length_cons, List.length_nil, call_up, Option.some.injEq, exists_eq_left', List.getElem?_cons_zero, List.getElem?_cons_succ, reduceCtorEq, Nat.reduceAdd, if_true, if_false, Nat.zero_add, Nat.reduceEqDiff]
  refine call1 hC [] [nodesV ps] hasBody_19 (tree_count_ref ps hsz) (by kernel_rfl) (by kernel_rfl) ⟨trivial, trivial⟩ ?_
  rintro r rfl
  simp only [hC, W_seq, W_reg, W_ret, ThenC_normal, AOps_nil, AOps_plain, AOps_guard, GuardK_t, S_move, S_assign, S_pick, S_bin, S_extr, val_tmp, val_cbool, PutK_eq, Pick_b, Extr_tup, true_and, and_true, put_ups, look_nil, look_cons, ups_get, Nat.reduceLT, List.getD_cons_zero, List.getD_cons_succ, List.length_cons, List.length_nil, Option.some.injEq, exists_eq_left', decide_true, List.getElem?_cons_zero, List.getElem?_cons_succ, reduceCtorEq, forall_const, false_implies, Nat.reduceAdd, if_true, if_false, Nat.zero_add, guardOf_zero, guardOf_succ, Nat.reduceEqDiff, BinX_eql]
  exact ret1u Try.results5 (x := .bool true) rfl trivial rfl

theorem treeCounts_core : LawCore 5 Try.f5.params.toList (fun H ds => Rows.uptoSmall H ds = true) := by
  refine core_of fun H enc W base args ds ps hval hA hlt hok => ?_
  obtain ⟨a, v, vs, d, ds', q, rfl, rfl, hp, _, hsz, hA', _, _⟩ := arg1 (t := 29) (ts := []) hval hA hlt reads_nodes ⟨fun _ => rfl, by kernel_rfl⟩
  obtain ⟨rfl, rfl⟩ := arg0 hA'
  have hb : Rows.uptoBulk d ≤ 1048576 := by
    simpa [Rows.uptoSmall, Rows.uptoBulkAll] using of_decide_eq_true hok
  exact ⟨_, args_cons hp args_nil, treeCounts_law a (by rw [szL_sum]; omega)⟩
end Go.Proofs.Yteabokphchpifaa
