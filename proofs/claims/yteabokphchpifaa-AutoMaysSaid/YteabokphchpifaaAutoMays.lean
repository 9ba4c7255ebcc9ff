/- The functions that the law AutoMays reaches, walked. No conditions. -/
import Derived.Test.YteabokphchpifaaSlices
import Derived.Test.YteabokphchpifaaLaw
namespace Go.Proofs.Yteabokphchpifaa
open Go.RowKit

/-- Is x no state of n? -/
def badState (n : Nat) (x : Int) : Bool := decide (x < -1) || decide ((n : Int) ≤ x)
def badRow (n : Nat) (l : List Int) : Bool := decide ((l.length : Int) ≠ 8) || l.any (badState n)
def autoV (T : List (List Int)) (F : List Bool) : V := .agg [.lst (T.map ints), .lst (F.map V.bool)]

theorem may1 (n : Nat) (x : Int) : Fn1 Try.prog 42 [.int .i64 x, .rp [.int .i64 n]] (fun r => r = .bool (badState n x)) := by
  refine fn1_walk Try.func42 rfl fun C hC => ?_
  by_cases h : x < -1
  · simp only [Try.ntmps42, hC, ti_3, h, W_seq, W_reg, W_ret, ThenC_normal, AOps_nil, AOps_plain, AOps_guard, GuardK_f, S_move, S_assign, S_pick, S_bin, S_load, val_tmp, val_cbool, val_cint, PutK_eq, Pick_b, true_and, and_true, put_ups, put_cons, look_nil, look_cons, ups_get, Nat.reduceLT, List.getD_cons_zero, List.getD_cons_succ, List.length_cons, List.length_nil, List.replicate, List.cons_append, List.nil_append, Load_rp, mkV_one, decide_true, List.take_succ_cons, List.take_zero, implies_true, reduceCtorEq, forall_const, false_implies, Nat.reduceAdd, Nat.reduceSub, Nat.le_refl, if_true, if_false, Nat.zero_add, guardOf_zero, guardOf_succ, Nat.reduceEqDiff, BinX_lss, BinX_geq]
    exact ret1u Try.results42 (x := .bool true) rfl trivial (by simp [badState, h])
  · simp only [Try.ntmps42, hC, ti_3, h, W_seq, W_reg, W_ret, ThenC_normal, AOps_nil, AOps_plain, AOps_guard, GuardK_f, S_move, S_assign, S_pick, S_bin, S_load, val_tmp, val_cbool, val_cint, PutK_eq, Pick_b, true_and, and_true, put_ups, put_cons, look_nil, look_cons, ups_get, Nat.reduceLT, List.getD_cons_zero, List.getD_cons_succ, List.length_cons, List.length_nil, List.replicate, List.cons_append, List.nil_append, Load_rp, mkV_one, decide_false, List.take_succ_cons, List.take_zero, implies_true, reduceCtorEq, forall_const, false_implies, Nat.reduceAdd, Nat.reduceSub, Nat.le_refl, if_true, if_false, Bool.false_eq_true, Nat.zero_add, guardOf_zero, guardOf_succ, Nat.reduceEqDiff, BinX_lss, BinX_geq]
    exact ret1u Try.results42 (x := .bool _) rfl trivial (by simp [badState, h])

theorem may2 (n : Nat) (l : List Int) : Fn1 Try.prog 44 [ints l, .rp [.fn 42 [.rp [.int .i64 n]]]] (fun r => r = .bool (badRow n l)) := by
  refine fn1_walk Try.func44 rfl fun C hC => ?_
  by_cases h : (l.length : Int) = 8
  · simp only [Try.ntmps44, hC, ints, isSli_24, ti_63, h, W_seq, W_reg, W_ret, ThenC_normal, AOps_nil, AOps_plain, AOps_guard, GuardK_f, S_move, S_assign, S_pick, S_bin, S_load, S_len, S_call, val_tmp, val_cbool, val_cint, PutK_eq, LenK_lst, Pick_b, true_and, and_true, put_ups, put_cons, look_nil, look_cons, ups_get, Nat.reduceLT, List.getD_cons_zero, List.getD_cons_succ, List.length_cons, List.length_nil, List.length_map, List.replicate, List.cons_append, List.nil_append, Load_rp, call_up, mkV_one, decide_false, List.take_succ_cons, List.take_zero, ne_eq, not_true_eq_false, implies_true, reduceCtorEq, forall_const, false_implies, Nat.reduceAdd, Nat.reduceSub, Nat.le_refl, if_true, if_false, Bool.false_eq_true, Nat.zero_add, guardOf_zero, guardOf_succ, Nat.reduceEqDiff, BinX_neq]
    intro _
    refine call1 hC [] [ints l, .fn 42 [.rp [.int .i64 n]]] hasBody_45 (containsFunc_45 (V.int .i64) (fun _ => rfl) (fun _ => trivial) l 42 [.rp [.int .i64 n]] (badState n) hasBody_42 (by simp [nrL, V.nr]) (fun x _ => may1 n x)) (by kernel_rfl) (by kernel_rfl) (by simp [nrL, V.nr, ints]) ?_
    rintro r rfl
    simp only [W_ret, ThenC_normal, AOps_nil, AOps_plain, S_assign, S_pick, val_tmp, val_cbool, PutK_eq, Pick_b, true_and, put_ups, look_nil, look_cons, ups_get, Nat.reduceLT, List.getD_cons_zero, List.getD_cons_succ, List.length_cons, List.length_nil, forall_const, false_implies, Nat.reduceAdd, if_true, if_false, Bool.false_eq_true, Nat.zero_add, Nat.reduceEqDiff]
    exact ret1u Try.results44 (x := .bool _) rfl trivial (by simp [badRow, h])
  · simp only [Try.ntmps44, hC, ints, isSli_24, ti_63, h, W_seq, W_reg, W_ret, ThenC_normal, AOps_nil, AOps_plain, AOps_guard, GuardK_f, S_move, S_assign, S_pick, S_bin, S_load, S_len, S_call, val_tmp, val_cbool, val_cint, PutK_eq, LenK_lst, Pick_b, true_and, and_true, put_ups, put_cons, look_nil, look_cons, ups_get, Nat.reduceLT, List.getD_cons_zero, List.getD_cons_succ, List.length_cons, List.length_nil, List.length_map, List.replicate, List.cons_append, List.nil_append, Load_rp, call_up, mkV_one, decide_true, List.take_succ_cons, List.take_zero, ne_eq, not_false_eq_true, implies_true, reduceCtorEq, forall_const, false_implies, Nat.reduceAdd, Nat.reduceSub, Nat.le_refl, if_true, if_false, Nat.zero_add, guardOf_zero, guardOf_succ, Nat.reduceEqDiff, BinX_neq]
    intro _
    exact ret1u Try.results44 (x := .bool true) rfl trivial (by simp [badRow, h])

def mayOk (T : List (List Int)) (F : List Bool) : Bool := decide (1 ≤ T.length) && decide (T.length ≤ 40) && decide (F.length = T.length) && !(T.any (badRow T.length))

theorem may (T : List (List Int)) (F : List Bool) : Fn1 Try.prog 22 [autoV T F] (fun r => r = .bool (mayOk T F)) := by
  refine fn1_walk Try.func22 rfl fun C hC => ?_
  by_cases h1 : (T.length : Int) < 1
  · simp only [Try.ntmps22, hC, autoV, h1, ti_3, zv_3, ti_33, isSli_33, ti_35, isSli_35, ti_37, fi_37_0, fi_37_1, ti_63, zv_63, W_seq, W_reg, W_condK, W_ret, W_skip, ThenC_normal, ThenC_ret, AOps_nil, AOps_plain, AOps_guard, CondK_bool, GuardK_f, S_move, S_assign, S_pick, S_bin, S_fldAddr, S_load, S_store, S_box, S_alloc, S_fn, S_len, S_call, val_tmp, val_cbool, val_cint, put_none, row_eq, PutK_eq, LenK_lst, Pick_b, true_and, and_true, put_ups, put_cons, look_nil, look_cons, ups_get, hset_zero, hset_succ, single_set, Nat.reduceLT, List.getD_cons_zero, List.getD_cons_succ, List.length_cons, List.length_nil, List.length_map, List.replicate, List.cons_append, List.nil_append, FldAddr_ptr, Load_ptr, Store_ptr, Box_eq, Alloc_eq, Fn_eq, call_up, cells_agg, cells_int, cells_fn, mkV_one, fresh_nil, fresh_some, putOb_nil, putOb_some, one_int, one_agg, one_fn, Option.some.injEq, exists_eq_left', Int.natCast_inj, decide_true, List.take_succ_cons, List.take_zero, List.drop_zero, List.drop_succ_cons, List.getElem?_cons_zero, List.getElem?_cons_succ, List.map_cons, List.map_nil, ne_eq, not_false_eq_true, implies_true, reduceCtorEq, forall_const, false_implies, Nat.reduceAdd, Nat.reduceSub, Nat.le_refl, if_true, if_false, setCells_int, setCells_any, cells_any, Nat.zero_add, Nat.add_zero, guardOf_zero, guardOf_succ, Nat.reduceLeDiff, Nat.reduceEqDiff, Nat.one_ne_zero, BinX_neq, BinX_lss]
    intro _
    exact ret1u Try.results22 (x := .bool false) rfl trivial (by simp [mayOk]; omega)
  · by_cases h2 : (40 : Int) < T.length
    · simp only [Try.ntmps22, hC, autoV, h1, h2, ti_3, zv_3, ti_33, isSli_33, ti_35, isSli_35, ti_37, fi_37_0, fi_37_1, ti_63, zv_63, W_seq, W_reg, W_condK, W_ret, W_skip, ThenC_normal, ThenC_ret, AOps_nil, AOps_plain, AOps_guard, CondK_bool, GuardK_f, S_move, S_assign, S_pick, S_bin, S_fldAddr, S_load, S_store, S_box, S_alloc, S_fn, S_len, S_call, val_tmp, val_cbool, val_cint, put_none, row_eq, PutK_eq, LenK_lst, Pick_b, true_and, and_true, put_ups, put_cons, look_nil, look_cons, ups_get, hset_zero, hset_succ, single_set, Nat.reduceLT, List.getD_cons_zero, List.getD_cons_succ, List.length_cons, List.length_nil, List.length_map, List.replicate, List.cons_append, List.nil_append, FldAddr_ptr, Load_ptr, Store_ptr, Box_eq, Alloc_eq, Fn_eq, call_up, cells_agg, cells_int, cells_fn, mkV_one, fresh_nil, fresh_some, putOb_nil, putOb_some, one_int, one_agg, one_fn, Option.some.injEq, exists_eq_left', Int.natCast_inj, decide_true, decide_false, List.take_succ_cons, List.take_zero, List.drop_zero, List.drop_succ_cons, List.getElem?_cons_zero, List.getElem?_cons_succ, List.map_cons, List.map_nil, ne_eq, not_false_eq_true, implies_true, reduceCtorEq, forall_const, false_implies, Nat.reduceAdd, Nat.reduceSub, Nat.le_refl, if_true, if_false, Bool.false_eq_true, setCells_int, setCells_any, cells_any, Nat.zero_add, Nat.add_zero, guardOf_zero, guardOf_succ, Nat.reduceLeDiff, Nat.reduceEqDiff, Nat.one_ne_zero, BinX_neq, BinX_lss, BinX_gtr]
      intro _
      exact ret1u Try.results22 (x := .bool false) rfl trivial (by simp [mayOk]; omega)
    · by_cases h3 : F.length = T.length
      · simp only [Try.ntmps22, hC, autoV, h1, h2, h3, ti_3, zv_3, ti_33, isSli_33, ti_35, isSli_35, ti_37, fi_37_0, fi_37_1, ti_63, zv_63, W_seq, W_reg, W_condK, W_ret, W_skip, ThenC_normal, ThenC_ret, AOps_nil, AOps_plain, AOps_guard, CondK_bool, GuardK_f, S_move, S_assign, S_pick, S_bin, S_fldAddr, S_load, S_store, S_box, S_alloc, S_fn, S_len, S_call, val_tmp, val_cbool, val_cint, put_none, row_eq, PutK_eq, LenK_lst, Pick_b, true_and, and_true, put_ups, put_cons, look_nil, look_cons, ups_get, hset_zero, hset_succ, single_set, Nat.reduceLT, List.getD_cons_zero, List.getD_cons_succ, List.length_cons, List.length_nil, List.length_map, List.replicate, List.cons_append, List.nil_append, FldAddr_ptr, Load_ptr, Store_ptr, Box_eq, Alloc_eq, Fn_eq, call_up, cells_agg, cells_int, cells_fn, mkV_one, fresh_nil, fresh_some, putOb_nil, putOb_some, one_int, one_agg, one_fn, Option.some.injEq, exists_eq_left', decide_false, List.take_succ_cons, List.take_zero, List.drop_zero, List.drop_succ_cons, List.getElem?_cons_zero, List.getElem?_cons_succ, List.map_cons, List.map_nil, ne_eq, not_true_eq_false, not_false_eq_true, implies_true, reduceCtorEq, forall_const, false_implies, Nat.reduceAdd, Nat.reduceSub, Nat.le_refl, if_true, if_false, Bool.false_eq_true, setCells_int, setCells_any, cells_any, Nat.zero_add, Nat.add_zero, guardOf_zero, guardOf_succ, Nat.reduceLeDiff, Nat.reduceEqDiff, Nat.one_ne_zero, BinX_neq, BinX_lss, BinX_gtr]
        intro _ _
        refine up_frz 1 (z := 1) (els := [.int .i64 T.length]) (by rfl) (by simp [nrL, V.nr]) ?_
        simp only [St.frz, frz_lst, frz_int, frz_bool, frz_any, frz_ptr, frz_agg, frz_fn, frzL_nil, frzL_cons, frzH_nil, frzH_some, frzO_row, Nat.reduceEqDiff, Nat.zero_ne_one, if_true, if_false, List.drop_zero, List.getElem?_cons_zero, frzL_ups, frzU_nil, frzU_cons, hset_zero, hset_succ]
        refine up_frz 2 (z := 1) (els := [.fn 42 [.rp [.int .i64 T.length]]]) (by rfl) (by simp [nrL, V.nr]) ?_
        simp only [St.frz, frz_lst, frz_int, frz_bool, frz_any, frz_rp, frz_ptr, frz_agg, frz_fn, frzL_nil, frzL_cons, frzH_nil, frzH_none, frzH_some, frzO_row, Nat.reduceEqDiff, if_true, if_false, List.drop_zero, List.getElem?_cons_zero, frzL_ups, frzU_nil, frzU_cons, hset_zero, hset_succ]
        refine call1 hC [] [.lst (T.map ints), .fn 44 [.rp [.fn 42 [.rp [.int .i64 T.length]]]]] hasBody_43 (containsFunc_43 ints (fun _ => rfl) (fun _ => trivial) T 44 [.rp [.fn 42 [.rp [.int .i64 T.length]]]] (badRow T.length) hasBody_44 (by simp [nrL, V.nr]) (fun x _ => may2 T.length x)) (by kernel_rfl) (by kernel_rfl) (by simp [nrL, V.nr]) ?_
        rintro r rfl
        simp only [W_ret, ThenC_normal, AOps_nil, AOps_plain, S_assign, S_un, val_tmp, PutK_eq, Un_not, put_ups, look_nil, look_cons, ups_get, Nat.reduceLT, List.getD_cons_zero, List.getD_cons_succ, List.length_cons, List.length_nil, cells_int, cells_fn, Nat.reduceAdd, if_true, if_false, Nat.zero_add, Nat.reduceEqDiff]
        exact ret1u Try.results22 (x := .bool _) rfl trivial (by simp [mayOk, h3]; omega)
      · simp only [Try.ntmps22, hC, autoV, h1, h2, h3, ti_3, zv_3, ti_33, isSli_33, ti_35, isSli_35, ti_37, fi_37_0, fi_37_1, ti_63, zv_63, W_seq, W_reg, W_condK, W_ret, W_skip, ThenC_normal, ThenC_ret, AOps_nil, AOps_plain, AOps_guard, CondK_bool, GuardK_f, S_move, S_assign, S_pick, S_bin, S_fldAddr, S_load, S_store, S_box, S_alloc, S_fn, S_len, S_call, val_tmp, val_cbool, val_cint, put_none, row_eq, PutK_eq, LenK_lst, Pick_b, true_and, and_true, put_ups, put_cons, look_nil, look_cons, ups_get, hset_zero, hset_succ, single_set, Nat.reduceLT, List.getD_cons_zero, List.getD_cons_succ, List.length_cons, List.length_nil, List.length_map, List.replicate, List.cons_append, List.nil_append, FldAddr_ptr, Load_ptr, Store_ptr, Box_eq, Alloc_eq, Fn_eq, call_up, cells_agg, cells_int, cells_fn, mkV_one, fresh_nil, fresh_some, putOb_nil, putOb_some, one_int, one_agg, one_fn, Option.some.injEq, exists_eq_left', Int.natCast_inj, decide_true, decide_false, List.take_succ_cons, List.take_zero, List.drop_zero, List.drop_succ_cons, List.getElem?_cons_zero, List.getElem?_cons_succ, List.map_cons, List.map_nil, ne_eq, not_false_eq_true, implies_true, reduceCtorEq, forall_const, false_implies, Nat.reduceAdd, Nat.reduceSub, Nat.le_refl, if_true, if_false, Bool.false_eq_true, setCells_int, setCells_any, cells_any, Nat.zero_add, Nat.add_zero, guardOf_zero, guardOf_succ, Nat.reduceLeDiff, Nat.reduceEqDiff, Nat.one_ne_zero, BinX_neq, BinX_lss, BinX_gtr]
        intro _ _
        exact ret1u Try.results22 (x := .bool false) rfl trivial (by simp [mayOk]; omega)
theorem any_miss {α : Type} {p : α → Bool} {l : List α} (h : ∀ j < l.length, ∀ x, l[j]? = some x → p x = false) : l.any p = false := by
  rw [List.any_eq_false]
  intro x hx
  obtain ⟨j, hj⟩ := List.mem_iff_getElem?.1 hx
  simp [h j (List.getElem?_eq_some_iff.1 hj).1 x hj]
theorem any_hit {α : Type} {p : α → Bool} {l : List α} {j : Nat} {x : α} (h : l[j]? = some x) (hp : p x = true) : l.any p = true :=
  List.any_eq_true.2 ⟨x, List.mem_of_getElem? h, hp⟩

def mayOut (T : List (List Int)) (k : Nat) : List V := [.any, .ptr 0 0 0, .bool false, .any, .any, .any, .any, .any, .any, .any, .any, .any, .any, .any, .any, .any, .any, .any, .any, .any, .any, .any, .any, .any, .any, .any, .any, .lst (T.map ints), .int .i64 T.length, .int .i64 k, .any, .any, .any, .any, .any, .any, .any, .any, .any, .any, .any, .any, .any, .any, .any, .any, .any, .any, .any, .any, .any, .any, .any]
def mayIn (T : List (List Int)) (k : Nat) (x : List Int) (i : Nat) : List V := [.any, .ptr 0 0 0, .bool false, .any, .any, .any, .any, .any, .any, .any, .any, .any, .any, .any, .any, .any, .any, .any, .any, .any, .any, .any, .any, .any, .any, .any, .any, .lst (T.map ints), .int .i64 T.length, .int .i64 k, .any, .any, .any, .any, .any, .any, ints x, .int .i64 x.length, .int .i64 i, .any, .any, .any, .any, .any, .any, .any, .any, .any, .any, .any, .any, .any, .any]
set_option maxHeartbeats 1000000 in
theorem may_ref (T : List (List Int)) (F : List Bool) : Fn1 Try.prog 23 [autoV T F] (fun r => r = .bool (mayOk T F)) := by
  refine fn1_walk Try.func23 rfl fun C hC => ?_
  by_cases h1 : (T.length : Int) = 0
  · simp only [Try.ntmps23, hC, autoV, h1, ti_33, isSli_33, ti_35, isSli_35, ti_37, fi_37_0, fi_37_1, W_seq, W_reg, W_condK, W_block, W_loop, W_ret, W_skip, ThenC_normal, ThenC_ret, AOps_nil, AOps_plain, AOps_guard, CondK_bool, GuardK_f, S_move, S_assign, S_pick, S_bin, S_fldAddr, S_load, S_box, S_len, val_tmp, val_cbool, val_cint, row_eq, PutK_eq, LenK_lst, Pick_b, true_and, and_true, put_ups, put_cons, look_nil, look_cons, ups_get, Nat.reduceLT, List.getD_cons_zero, List.getD_cons_succ, List.length_cons, List.length_nil, List.length_map, List.replicate, List.cons_append, List.nil_append, FldAddr_ptr, Load_ptr, Box_eq, cells_agg, mkV_one, fresh_nil, putOb_nil, one_agg, Option.some.injEq, exists_eq_left', decide_true, List.take_succ_cons, List.take_zero, List.drop_zero, List.drop_succ_cons, List.getElem?_cons_zero, ne_eq, implies_true, reduceCtorEq, forall_const, false_implies, Nat.reduceAdd, Nat.reduceSub, Nat.le_refl, if_true, if_false, Nat.zero_add, Nat.add_zero, guardOf_zero, guardOf_succ, Nat.reduceLeDiff, Nat.reduceEqDiff, BinX_eql, BinX_neq]
    intro _
    exact ret1u Try.results23 (x := .bool false) rfl trivial (by simp [mayOk]; omega)
  · by_cases h2 : (40 : Int) < T.length
    · simp only [Try.ntmps23, hC, autoV, h1, h2, ti_33, isSli_33, ti_35, isSli_35, ti_37, fi_37_0, fi_37_1, W_seq, W_reg, W_condK, W_block, W_loop, W_ret, W_skip, ThenC_normal, ThenC_ret, AOps_nil, AOps_plain, AOps_guard, CondK_bool, GuardK_f, S_move, S_assign, S_pick, S_bin, S_fldAddr, S_load, S_box, S_len, val_tmp, val_cbool, val_cint, row_eq, PutK_eq, LenK_lst, Pick_b, true_and, and_true, put_ups, put_cons, look_nil, look_cons, ups_get, Nat.reduceLT, List.getD_cons_zero, List.getD_cons_succ, List.length_cons, List.length_nil, List.length_map, List.replicate, List.cons_append, List.nil_append, FldAddr_ptr, Load_ptr, Box_eq, cells_agg, mkV_one, fresh_nil, putOb_nil, one_agg, Option.some.injEq, exists_eq_left', Int.natCast_inj, decide_true, decide_false, List.take_succ_cons, List.take_zero, List.drop_zero, List.drop_succ_cons, List.getElem?_cons_zero, ne_eq, implies_true, reduceCtorEq, forall_const, false_implies, Nat.reduceAdd, Nat.reduceSub, Nat.le_refl, if_true, if_false, Bool.false_eq_true, Nat.zero_add, Nat.add_zero, guardOf_zero, guardOf_succ, Nat.reduceLeDiff, Nat.reduceEqDiff, BinX_eql, BinX_neq, BinX_gtr]
      intro _ _
      exact ret1u Try.results23 (x := .bool false) rfl trivial (by simp [mayOk]; omega)
    · by_cases h3 : F.length = T.length
      · simp (maxSteps := 2000000) only [Try.ntmps23, hC, autoV, h1, h2, h3, ti_33, isSli_33, ti_35, isSli_35, ti_37, fi_37_0, fi_37_1, W_seq, W_reg, W_condK, W_block, W_loop, W_ret, W_skip, ThenC_normal, ThenC_ret, AOps_nil, AOps_plain, AOps_guard, CondK_bool, GuardK_f, S_move, S_assign, S_pick, S_bin, S_fldAddr, S_load, S_box, S_len, val_tmp, val_cbool, val_cint, row_eq, PutK_eq, LenK_lst, Pick_b, true_and, and_true, put_ups, put_cons, look_nil, look_cons, ups_get, Nat.reduceLT, List.getD_cons_zero, List.getD_cons_succ, List.length_cons, List.length_nil, List.length_map, List.replicate, List.cons_append, List.nil_append, FldAddr_ptr, Load_ptr, Box_eq, cells_agg, mkV_one, fresh_nil, putOb_nil, one_agg, Option.some.injEq, exists_eq_left', decide_false, List.take_succ_cons, List.take_zero, List.drop_zero, List.drop_succ_cons, List.getElem?_cons_zero, ne_eq, not_true_eq_false, implies_true, reduceCtorEq, forall_const, false_implies, Nat.reduceAdd, Nat.reduceSub, Nat.le_refl, if_true, if_false, Bool.false_eq_true, Nat.zero_add, Nat.add_zero, guardOf_zero, guardOf_succ, Nat.reduceLeDiff, Nat.reduceEqDiff, BinX_eql, BinX_neq, BinX_gtr]
        intro hl _ _ _ _
        refine w_loop (fun σ => ∃ k : Nat, k ≤ T.length ∧ (∀ j < k, ∀ x, T[j]? = some x → badRow T.length x = false) ∧
          σ = ⟨mayOut T k, [some (.row 2 [autoV T F])]⟩) (fun σ => T.length - slotI 29 σ) ?_ ?_
        · exact up_to [1, 2, 27, 28, 29] (mayOut T 0) (by kernel_rfl) (up_intro ⟨0, Nat.zero_le _, by simp, rfl⟩)
        · rintro σ ⟨k, hk, hj, rfl⟩
          by_cases hlt : k < T.length
          · obtain ⟨x, hx⟩ : ∃ x, T[k]? = some x := ⟨_, List.getElem?_eq_getElem hlt⟩
            have hw := wrap_succ k (by rw [maxLen_eq] at hl; omega)
            by_cases h8 : (x.length : Int) = 8
            · simp only [hC, mayOut, hlt, hx, h8, ints, ei_33, ti_24, isSli_24, W_seq, W_reg, W_condK, W_block, W_loop, W_exit, W_ret, W_skip, ThenC_normal, ThenC_exit, ThenC_ret, InB_exit_same, InB_ret, AOps_nil, AOps_plain, CondK_bool, S_move, S_assign, S_bin, S_idxAddr, S_load, S_len, val_tmp, val_cbool, val_cint, PutK_eq, LenK_lst, true_and, and_true, put_ups, put_cons, look_nil, look_cons, ups_get, Nat.reduceLT, List.getD_cons_zero, List.getD_cons_succ, List.length_cons, List.length_nil, List.length_map, IdxAddr_lst, Load_rp, ex_map_get, cells_lst, mkV_one, Option.some.injEq, exists_eq_left', Int.toNat_natCast, Int.natCast_nonneg, Int.ofNat_lt, decide_true, decide_false, List.take_succ_cons, List.take_zero, ne_eq, not_true_eq_false, implies_true, reduceCtorEq, forall_const, false_implies, Nat.reduceAdd, Nat.le_refl, if_true, if_false, Bool.false_eq_true, Nat.zero_add, Nat.reduceEqDiff, BinX_neq, BinX_lss]
              intro hxl _
              refine w_loop (fun σ => ∃ i : Nat, i ≤ x.length ∧ (∀ j < i, ∀ y, x[j]? = some y → badState T.length y = false) ∧
                σ = ⟨mayIn T k x i, [some (.row 2 [autoV T F])]⟩) (fun σ => x.length - slotI 38 σ) ?_ ?_
              · rw [← h8]
                exact up_to [1, 2, 27, 28, 29, 36, 37, 38] (mayIn T k x 0) (by kernel_rfl) (up_intro ⟨0, Nat.zero_le _, by simp, rfl⟩)
              · rintro σ ⟨i, hi, hij, rfl⟩
                by_cases hit : i < x.length
                · obtain ⟨y, hy⟩ : ∃ y, x[i]? = some y := ⟨_, List.getElem?_eq_getElem hit⟩
                  have hw2 := wrap_succ i (by rw [maxLen_eq] at hxl; omega)
                  by_cases c1 : y < -1
                  · simp only [hC, mayIn, hit, hy, c1, ints, autoV, ei_24, ti_3, W_seq, W_reg, W_condK, W_block, W_exit, W_ret, W_skip, ThenC_normal, ThenC_exit, ThenC_ret, InB_normal, InB_exit_same, InB_ret, AOps_nil, AOps_plain, AOps_guard, CondK_bool, GuardK_f, S_move, S_assign, S_pick, S_bin, S_idxAddr, S_fldAddr, S_load, S_len, val_tmp, val_cbool, val_cint, row_eq, PutK_eq, Pick_b, true_and, and_true, put_ups, put_cons, look_nil, look_cons, ups_get, Nat.reduceLT, List.getD_cons_zero, List.getD_cons_succ, List.length_cons, List.length_nil, IdxAddr_lst, FldAddr_ptr, Load_rp, Load_ptr, ex_map_get, cells_agg, cells_int, mkV_one, Option.some.injEq, exists_eq_left', Int.toNat_natCast, Int.natCast_nonneg, Int.ofNat_lt, decide_true, List.take_succ_cons, List.take_zero, List.getElem?_cons_zero, implies_true, reduceCtorEq, forall_const, false_implies, Nat.reduceAdd, Nat.le_refl, if_true, if_false, Nat.zero_add, guardOf_zero, guardOf_succ, Nat.reduceEqDiff, BinX_add, BinX_lss]
                    exact ret1u Try.results23 (x := .bool false) rfl trivial (by
                      have hb : badState T.length y = true := by simp [badState, c1]
                      have hr : badRow T.length x = true := by simp [badRow, any_hit hy hb]
                      simp [mayOk, any_hit hx hr])
                  · by_cases c2 : (T.length : Int) ≤ y
                    · simp only [hC, mayIn, hit, hy, c1, c2, ints, autoV, ei_24, ti_3, fi_37_0, ti_33, isSli_33, W_seq, W_reg, W_condK, W_block, W_exit, W_ret, W_skip, ThenC_normal, ThenC_exit, ThenC_ret, InB_normal, InB_exit_same, InB_ret, AOps_nil, AOps_plain, AOps_guard, CondK_bool, GuardK_f, S_move, S_assign, S_pick, S_bin, S_idxAddr, S_fldAddr, S_load, S_len, val_tmp, val_cbool, val_cint, row_eq, PutK_eq, LenK_lst, Pick_b, true_and, and_true, put_ups, put_cons, look_nil, look_cons, ups_get, Nat.reduceLT, List.getD_cons_zero, List.getD_cons_succ, List.length_cons, List.length_nil, List.length_map, IdxAddr_lst, FldAddr_ptr, Load_rp, Load_ptr, ex_map_get, cells_agg, cells_int, mkV_one, Option.some.injEq, exists_eq_left', Int.toNat_natCast, Int.natCast_nonneg, Int.ofNat_lt, decide_true, decide_false, List.take_succ_cons, List.take_zero, List.drop_zero, List.getElem?_cons_zero, implies_true, reduceCtorEq, forall_const, false_implies, Nat.reduceAdd, Nat.le_refl, if_true, if_false, Bool.false_eq_true, Nat.zero_add, Nat.add_zero, guardOf_zero, guardOf_succ, Nat.reduceLeDiff, Nat.reduceEqDiff, BinX_add, BinX_lss, BinX_geq]
                      intro _
                      exact ret1u Try.results23 (x := .bool false) rfl trivial (by
                        have hb : badState T.length y = true := by simp [badState, c2]
                        have hr : badRow T.length x = true := by simp [badRow, any_hit hy hb]
                        simp [mayOk, any_hit hx hr])
                    · simp only [hC, mayIn, hit, hy, c1, c2, hw2, ints, autoV, ei_24, ti_3, fi_37_0, ti_33, isSli_33, W_seq, W_reg, W_condK, W_block, W_exit, W_ret, W_skip, ThenC_normal, ThenC_exit, ThenC_ret, InB_normal, InB_exit_same, InB_ret, AOps_nil, AOps_plain, AOps_guard, CondK_bool, GuardK_f, S_move, S_assign, S_pick, S_bin, S_idxAddr, S_fldAddr, S_load, S_len, val_tmp, val_cbool, val_cint, row_eq, PutK_eq, LenK_lst, Pick_b, true_and, and_true, put_ups, put_cons, look_nil, look_cons, ups_get, Nat.reduceLT, List.getD_cons_zero, List.getD_cons_succ, List.length_cons, List.length_nil, List.length_map, IdxAddr_lst, FldAddr_ptr, Load_rp, Load_ptr, ex_map_get, cells_agg, cells_int, mkV_one, Option.some.injEq, exists_eq_left', Int.toNat_natCast, Int.natCast_nonneg, Int.ofNat_lt, decide_true, decide_false, List.take_succ_cons, List.take_zero, List.drop_zero, List.getElem?_cons_zero, implies_true, reduceCtorEq, forall_const, false_implies, Nat.reduceAdd, Nat.le_refl, if_true, if_false, Bool.false_eq_true, Nat.zero_add, Nat.add_zero, guardOf_zero, guardOf_succ, Nat.reduceLeDiff, Nat.reduceEqDiff, BinX_add, BinX_lss, BinX_geq]
                      intro _
                      refine up_to [1, 2, 27, 28, 29, 36, 37, 38] (mayIn T k x (i + 1)) (by kernel_rfl) (up_intro ⟨⟨i + 1, hit, ?_, rfl⟩, ?_⟩)
                      · intro j hji z hz
                        by_cases e : j = i
                        · subst e; rw [hy] at hz; cases hz; simp [badState, c1, c2]
                        · exact hij j (by omega) z hz
                      · show x.length - (i + 1) < x.length - i
                        omega
                · simp only [hC, mayIn, hit, hw, ints, W_seq, W_reg, W_condK, W_block, W_exit, W_skip, ThenC_normal, ThenC_exit, InB_normal, InB_exit_same, AOps_nil, AOps_plain, CondK_bool, S_move, S_assign, S_bin, S_idxAddr, S_load, val_tmp, val_cint, PutK_eq, true_and, put_ups, put_cons, look_nil, look_cons, ups_get, Nat.reduceLT, List.getD_cons_zero, List.getD_cons_succ, List.length_cons, List.length_nil, IdxAddr_lst, Load_rp, ex_map_get, cells_int, Int.toNat_natCast, Int.natCast_nonneg, Int.ofNat_lt, decide_false, forall_const, false_implies, Nat.reduceAdd, if_true, if_false, Bool.false_eq_true, Nat.zero_add, Nat.reduceEqDiff, BinX_add, BinX_lss]
                  refine up_to [1, 2, 27, 28, 29] (mayOut T (k + 1)) (by kernel_rfl) (up_intro ⟨⟨k + 1, hlt, ?_, rfl⟩, ?_⟩)
                  · intro j hjk z hz
                    by_cases e : j = k
                    · subst e; rw [hx] at hz; cases hz
                      have : x.any (badState T.length) = false := any_miss fun j hj y hy => hij j (by omega) y hy
                      simp only [badRow, this]
                      simp; omega
                    · exact hj j (by omega) z hz
                  · show T.length - (k + 1) < T.length - k
                    omega
            · simp only [hC, mayOut, hlt, hx, h8, ints, ei_33, ti_24, isSli_24, W_seq, W_reg, W_condK, W_block, W_loop, W_exit, W_ret, W_skip, ThenC_normal, ThenC_exit, ThenC_ret, InB_exit_same, InB_ret, AOps_nil, AOps_plain, CondK_bool, S_move, S_assign, S_bin, S_idxAddr, S_load, S_len, val_tmp, val_cbool, val_cint, PutK_eq, LenK_lst, true_and, and_true, put_ups, put_cons, look_nil, look_cons, ups_get, Nat.reduceLT, List.getD_cons_zero, List.getD_cons_succ, List.length_cons, List.length_nil, List.length_map, IdxAddr_lst, Load_rp, ex_map_get, cells_lst, mkV_one, Option.some.injEq, exists_eq_left', Int.toNat_natCast, Int.natCast_nonneg, Int.ofNat_lt, decide_true, List.take_succ_cons, List.take_zero, ne_eq, not_false_eq_true, implies_true, reduceCtorEq, forall_const, false_implies, Nat.reduceAdd, Nat.le_refl, if_true, if_false, Nat.zero_add, Nat.reduceEqDiff, BinX_neq, BinX_lss]
              intro _
              exact ret1u Try.results23 (x := .bool false) rfl trivial (by
                have hr : badRow T.length x = true := by simp [badRow]; left; omega
                simp [mayOk, any_hit hx hr])
          · simp only [hC, mayOut, hlt, W_seq, W_reg, W_condK, W_block, W_exit, W_ret, W_skip, ThenC_normal, ThenC_exit, InB_exit_same, AOps_nil, AOps_plain, CondK_bool, S_move, S_assign, S_bin, S_idxAddr, S_load, S_len, val_tmp, val_cbool, PutK_eq, true_and, put_ups, put_cons, look_nil, look_cons, ups_get, Nat.reduceLT, List.getD_cons_zero, List.getD_cons_succ, List.length_cons, List.length_nil, IdxAddr_lst, Load_rp, ex_map_get, Int.toNat_natCast, Int.natCast_nonneg, Int.ofNat_lt, decide_false, forall_const, false_implies, Nat.reduceAdd, if_true, if_false, Bool.false_eq_true, Nat.zero_add, Nat.reduceEqDiff, BinX_lss]
            exact ret1u Try.results23 (x := .bool true) rfl trivial (by
              have : T.any (badRow T.length) = false := any_miss fun j hj' y hy => hj j (by omega) y hy
              simp [mayOk, this, h3]; omega)
      · have h3' : ¬ (T.length = F.length) := fun h => h3 h.symm
        simp (maxSteps := 2000000) only [Try.ntmps23, hC, autoV, h1, h2, h3', ti_33, isSli_33, ti_35, isSli_35, ti_37, fi_37_0, fi_37_1, W_seq, W_reg, W_condK, W_block, W_loop, W_ret, W_skip, ThenC_normal, ThenC_ret, AOps_nil, AOps_plain, AOps_guard, CondK_bool, GuardK_f, S_move, S_assign, S_pick, S_bin, S_fldAddr, S_load, S_box, S_len, val_tmp, val_cbool, val_cint, row_eq, PutK_eq, LenK_lst, Pick_b, true_and, and_true, put_ups, put_cons, look_nil, look_cons, ups_get, Nat.reduceLT, List.getD_cons_zero, List.getD_cons_succ, List.length_cons, List.length_nil, List.length_map, List.replicate, List.cons_append, List.nil_append, FldAddr_ptr, Load_ptr, Box_eq, cells_agg, mkV_one, fresh_nil, putOb_nil, one_agg, Option.some.injEq, exists_eq_left', Int.natCast_inj, decide_true, decide_false, List.take_succ_cons, List.take_zero, List.drop_zero, List.drop_succ_cons, List.getElem?_cons_zero, ne_eq, not_false_eq_true, implies_true, reduceCtorEq, forall_const, false_implies, Nat.reduceAdd, Nat.reduceSub, Nat.le_refl, if_true, if_false, Bool.false_eq_true, Nat.zero_add, Nat.add_zero, guardOf_zero, guardOf_succ, Nat.reduceLeDiff, Nat.reduceEqDiff, BinX_eql, BinX_neq, BinX_gtr]
        intros
        exact ret1u Try.results23 (x := .bool false) rfl trivial (by simp [mayOk]; omega)

theorem autoMays_law (T : List (List Int)) (F : List Bool) : Fn1 Try.prog 7 [autoV T F] (fun r => r = .bool true) := by
  refine fn1_walk Try.func7 rfl fun C hC => ?_
  simp only [Try.ntmps7, hC, autoV, ti_37, W_seq, W_reg, W_draw, ThenC_normal, AOps_nil, AOps_plain, S_assign, S_box, val_tmp, val_cbool, PutK_eq, true_and, put_ups, put_cons, List.getD_cons_zero, List.length_cons, List.length_nil, List.replicate, List.cons_append, List.nil_append, Box_eq, cells_agg, fresh_nil, putOb_nil, one_agg, Nat.reduceAdd, Nat.reduceSub, Nat.zero_add]
  refine up_frz 0 (z := 2) (els := [autoV T F]) (by rfl) (by simp [nrL, V.nr, autoV]) ?_
  simp only [autoV, St.frz, frz_lst, frz_bool, frz_any, frz_ptr, frz_agg, frzL_nil, frzL_cons, frzH_nil, frzH_some, frzO_row, if_true, List.drop_zero, List.getElem?_cons_zero, frzL_ups, frzU_nil, frzU_cons, hset_zero]
  refine up_intro ⟨by rw [hC]; exact follows_all, by kernel_rfl, ?_⟩
  simp only [hC, ti_37, QOps_plain, Q_load, Q_call, val_tmp, PutK_eq, true_and, put_ups, look_nil, look_cons, ups_get, Nat.reduceLT, List.getD_cons_zero, List.getD_cons_succ, List.length_cons, List.length_nil, Load_rp, cells_agg, mkV_agg, List.take_succ_cons, List.take_zero, reduceCtorEq, false_implies, Nat.reduceAdd, Nat.le_refl, if_true, if_false, Nat.zero_add, Nat.reduceEqDiff]
  refine callQ1 hC [] [autoV T F] hasBody_22 (may T F) (by kernel_rfl) (by kernel_rfl) (by simp [nrL, V.nr, autoV]) ?_
  simp only [hC, ti_37, QOps_plain, Q_load, Q_call, val_tmp, PutK_eq, true_and, put_ups, look_nil, look_cons, ups_get, Nat.reduceLT, List.getD_cons_zero, List.getD_cons_succ, List.length_cons, List.length_nil, Load_rp, mkV_agg, List.take_succ_cons, List.take_zero, reduceCtorEq, false_implies, Nat.reduceAdd, Nat.le_refl, if_true, if_false, Nat.zero_add, Nat.reduceEqDiff]
  refine callQ1 hC [] [autoV T F] hasBody_23 (may_ref T F) (by kernel_rfl) (by kernel_rfl) (by simp [nrL, V.nr, autoV]) ?_
  simp only [hC, isBoo_4, W_ret, ThenC_normal, QOps_nil, QOps_plain, Q_assign, Q_bin, val_tmp, PutK_eq, Bin_beq, true_and, put_ups, look_nil, look_cons, ups_get, Nat.reduceLT, List.getD_cons_zero, List.getD_cons_succ, List.length_cons, List.length_nil, Nat.reduceAdd, if_true, if_false, Nat.zero_add, Nat.reduceEqDiff]
  exact ret1u Try.results7 (x := .bool _) rfl trivial (by simp)
end Go.Proofs.Yteabokphchpifaa
