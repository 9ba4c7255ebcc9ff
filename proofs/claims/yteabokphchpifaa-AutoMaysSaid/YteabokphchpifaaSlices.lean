/- Contracts of the functions of package slices, by program. No conditions. -/
import Derived.Test.YteabokphchpifaaLib
namespace Go.Proofs.Yteabokphchpifaa
open Go.RowKit

set_option maxHeartbeats 400000 in
theorem indexFunc_63 {α : Type} (f : α → V) (hf : ∀ a, (f a).cells = [f a]) (hn : ∀ a, (f a).nr) (l : List α) (h : FuncId) (caps : List V) (p : α → Bool) (hb : hasBody Try.prog h = true) (hc : nrL caps) (hp : ∀ a ∈ l, Fn1 Try.prog h (f a :: caps) (fun r => r = .bool (p a))) :
    Fn1 Try.prog 63 [.lst (l.map f), .fn h caps] (fun r => r = .int .i64 (idxOf p l)) := by
  refine fn1_walk Try.func63 rfl fun C hC => ?_
  simp only [Try.ntmps63, hC, isSli_33, W_seq, W_reg, W_block, W_loop, ThenC_normal, AOps_nil, AOps_plain, S_move, S_assign, S_len, val_tmp, val_cint, PutK_eq, LenK_lst, true_and, put_ups, put_cons, look_nil, look_cons, ups_get, Nat.reduceLT, List.getD_cons_zero, List.getD_cons_succ, List.length_cons, List.length_nil, List.length_map, List.replicate, List.cons_append, List.nil_append, reduceCtorEq, Nat.reduceAdd, Nat.reduceSub, if_true, if_false, Nat.zero_add, Nat.reduceEqDiff]
  intro hl
  refine w_loop (fun σ => ∃ k : Nat, k ≤ l.length ∧ (∀ j < k, ∀ x, l[j]? = some x → p x = false) ∧ σ = ⟨[.lst (l.map f), .fn h caps, .any, .any, .int .i64 0, .any, .any, .int .i64 l.length, .int .i64 k, .any, .any, .any, .any, .any, .any, .any, .any, .any, .any], []⟩) (fun σ => l.length - slotI 8 σ) ?_ ?_
  · exact up_to [0, 1, 4, 7, 8] [.lst (l.map f), .fn h caps, .any, .any, .int .i64 0, .any, .any, .int .i64 l.length, .int .i64 (0 : Nat), .any, .any, .any, .any, .any, .any, .any, .any, .any, .any] (by kernel_rfl) (up_intro ⟨0, Nat.zero_le _, by simp, rfl⟩)
  · rintro σ ⟨k, hk, hj, rfl⟩
    by_cases hlt : k < l.length
    · obtain ⟨x, hx⟩ : ∃ x, l[k]? = some x := ⟨_, List.getElem?_eq_getElem hlt⟩
      have hw := wrap_succ k (by rw [maxLen_eq] at hl; omega)
      simp only [hC, hlt, hx, hf, ei_33, ti_24, W_seq, W_reg, W_condK, W_block, W_exit, W_ret, W_skip, ThenC_normal, ThenC_exit, InB_exit_same, AOps_nil, AOps_plain, CondK_bool, S_move, S_assign, S_bin, S_idxAddr, S_load, S_call, val_tmp, val_cint, PutK_eq, true_and, and_true, put_ups, put_cons, look_nil, look_cons, ups_get, Nat.reduceLT, List.getD_cons_zero, List.getD_cons_succ, List.length_cons, List.length_nil, IdxAddr_lst, Load_rp, call_up, ex_map_get, mkV_one, Option.some.injEq, exists_eq_left', Int.toNat_natCast, Int.natCast_nonneg, Int.ofNat_lt, decide_true, List.take_succ_cons, List.take_zero, implies_true, reduceCtorEq, forall_const, false_implies, Nat.reduceAdd, Nat.le_refl, if_true, if_false, Nat.zero_add, Nat.reduceEqDiff, BinX_lss]
      refine call1 hC caps ((f x) :: caps) hb (hp x (List.mem_of_getElem? hx)) (by kernel_rfl) (by kernel_rfl) ⟨hn x, hc⟩ ?_
      rintro r rfl
      simp only [hC, hw, W_seq, W_reg, W_condK, W_ret, W_skip, ThenC_normal, ThenC_ret, InB_normal, InB_ret, AOps_nil, AOps_plain, CondK_bool, S_move, S_assign, S_bin, val_tmp, val_cint, PutK_eq, true_and, put_ups, look_nil, look_cons, ups_get, Nat.reduceLT, List.getD_cons_zero, List.getD_cons_succ, List.length_cons, List.length_nil, Nat.reduceAdd, if_true, if_false, Nat.zero_add, Nat.reduceEqDiff, BinX_add]
      refine ⟨fun hpx => ret1u Try.results63 (x := .int .i64 k) rfl trivial ?_, fun hpx => up_to [0, 1, 4, 7, 8] [.lst (l.map f), .fn h caps, .any, .any, .int .i64 0, .any, .any, .int .i64 l.length, .int .i64 (k + 1 : Nat), .any, .any, .any, .any, .any, .any, .any, .any, .any, .any] (by kernel_rfl) (up_intro ⟨⟨k + 1, hlt, ?_, rfl⟩, ?_⟩)⟩
      · rw [idxOf_hit hx hpx hj]
      · intro j hjk y hy
        by_cases hjk' : j = k
        · subst hjk'; rw [hx] at hy; cases hy; exact hpx
        · exact hj j (by omega) y hy
      · show l.length - (k + 1) < l.length - k
        omega
    · simp only [hC, hlt, W_seq, W_reg, W_condK, W_block, W_exit, W_ret, W_skip, ThenC_normal, ThenC_exit, InB_exit_same, AOps_nil, AOps_plain, CondK_bool, S_move, S_assign, S_bin, S_idxAddr, S_load, S_call, val_tmp, val_cint, PutK_eq, true_and, put_ups, put_cons, look_nil, look_cons, ups_get, Nat.reduceLT, List.getD_cons_zero, List.getD_cons_succ, List.length_cons, List.length_nil, IdxAddr_lst, Load_rp, call_up, ex_map_get, Int.toNat_natCast, Int.natCast_nonneg, Int.ofNat_lt, decide_false, reduceCtorEq, forall_const, false_implies, Nat.reduceAdd, if_true, if_false, Bool.false_eq_true, Nat.zero_add, Nat.reduceEqDiff, BinX_lss]
      exact ret1u Try.results63 (x := .int .i64 (-1)) rfl trivial (by rw [idxOf_miss (fun x hx => by obtain ⟨j, hj'⟩ := List.mem_iff_getElem?.1 hx; exact hj j (by have := (List.getElem?_eq_some_iff.1 hj').1; omega) x hj')])

set_option maxHeartbeats 400000 in
theorem indexFunc_64 {α : Type} (f : α → V) (hf : ∀ a, (f a).cells = [f a]) (hn : ∀ a, (f a).nr) (l : List α) (h : FuncId) (caps : List V) (p : α → Bool) (hb : hasBody Try.prog h = true) (hc : nrL caps) (hp : ∀ a ∈ l, Fn1 Try.prog h (f a :: caps) (fun r => r = .bool (p a))) :
    Fn1 Try.prog 64 [.lst (l.map f), .fn h caps] (fun r => r = .int .i64 (idxOf p l)) := by
  refine fn1_walk Try.func64 rfl fun C hC => ?_
  simp only [Try.ntmps64, hC, isSli_24, W_seq, W_reg, W_block, W_loop, ThenC_normal, AOps_nil, AOps_plain, S_move, S_assign, S_len, val_tmp, val_cint, PutK_eq, LenK_lst, true_and, put_ups, put_cons, look_nil, look_cons, ups_get, Nat.reduceLT, List.getD_cons_zero, List.getD_cons_succ, List.length_cons, List.length_nil, List.length_map, List.replicate, List.cons_append, List.nil_append, reduceCtorEq, Nat.reduceAdd, Nat.reduceSub, if_true, if_false, Nat.zero_add, Nat.reduceEqDiff]
  intro hl
  refine w_loop (fun σ => ∃ k : Nat, k ≤ l.length ∧ (∀ j < k, ∀ x, l[j]? = some x → p x = false) ∧ σ = ⟨[.lst (l.map f), .fn h caps, .any, .any, .int .i64 0, .any, .any, .int .i64 l.length, .int .i64 k, .any, .any, .any, .any, .any, .any, .any, .any, .any, .any], []⟩) (fun σ => l.length - slotI 8 σ) ?_ ?_
  · exact up_to [0, 1, 4, 7, 8] [.lst (l.map f), .fn h caps, .any, .any, .int .i64 0, .any, .any, .int .i64 l.length, .int .i64 (0 : Nat), .any, .any, .any, .any, .any, .any, .any, .any, .any, .any] (by kernel_rfl) (up_intro ⟨0, Nat.zero_le _, by simp, rfl⟩)
  · rintro σ ⟨k, hk, hj, rfl⟩
    by_cases hlt : k < l.length
    · obtain ⟨x, hx⟩ : ∃ x, l[k]? = some x := ⟨_, List.getElem?_eq_getElem hlt⟩
      have hw := wrap_succ k (by rw [maxLen_eq] at hl; omega)
      simp only [hC, hlt, hx, hf, ei_24, ti_3, W_seq, W_reg, W_condK, W_block, W_exit, W_ret, W_skip, ThenC_normal, ThenC_exit, InB_exit_same, AOps_nil, AOps_plain, CondK_bool, S_move, S_assign, S_bin, S_idxAddr, S_load, S_call, val_tmp, val_cint, PutK_eq, true_and, and_true, put_ups, put_cons, look_nil, look_cons, ups_get, Nat.reduceLT, List.getD_cons_zero, List.getD_cons_succ, List.length_cons, List.length_nil, IdxAddr_lst, Load_rp, call_up, ex_map_get, mkV_one, Option.some.injEq, exists_eq_left', Int.toNat_natCast, Int.natCast_nonneg, Int.ofNat_lt, decide_true, List.take_succ_cons, List.take_zero, implies_true, reduceCtorEq, forall_const, false_implies, Nat.reduceAdd, Nat.le_refl, if_true, if_false, Nat.zero_add, Nat.reduceEqDiff, BinX_lss]
      refine call1 hC caps ((f x) :: caps) hb (hp x (List.mem_of_getElem? hx)) (by kernel_rfl) (by kernel_rfl) ⟨hn x, hc⟩ ?_
      rintro r rfl
      simp only [hC, hw, W_seq, W_reg, W_condK, W_ret, W_skip, ThenC_normal, ThenC_ret, InB_normal, InB_ret, AOps_nil, AOps_plain, CondK_bool, S_move, S_assign, S_bin, val_tmp, val_cint, PutK_eq, true_and, put_ups, look_nil, look_cons, ups_get, Nat.reduceLT, List.getD_cons_zero, List.getD_cons_succ, List.length_cons, List.length_nil, Nat.reduceAdd, if_true, if_false, Nat.zero_add, Nat.reduceEqDiff, BinX_add]
      refine ⟨fun hpx => ret1u Try.results64 (x := .int .i64 k) rfl trivial ?_, fun hpx => up_to [0, 1, 4, 7, 8] [.lst (l.map f), .fn h caps, .any, .any, .int .i64 0, .any, .any, .int .i64 l.length, .int .i64 (k + 1 : Nat), .any, .any, .any, .any, .any, .any, .any, .any, .any, .any] (by kernel_rfl) (up_intro ⟨⟨k + 1, hlt, ?_, rfl⟩, ?_⟩)⟩
      · rw [idxOf_hit hx hpx hj]
      · intro j hjk y hy
        by_cases hjk' : j = k
        · subst hjk'; rw [hx] at hy; cases hy; exact hpx
        · exact hj j (by omega) y hy
      · show l.length - (k + 1) < l.length - k
        omega
    · simp only [hC, hlt, W_seq, W_reg, W_condK, W_block, W_exit, W_ret, W_skip, ThenC_normal, ThenC_exit, InB_exit_same, AOps_nil, AOps_plain, CondK_bool, S_move, S_assign, S_bin, S_idxAddr, S_load, S_call, val_tmp, val_cint, PutK_eq, true_and, put_ups, put_cons, look_nil, look_cons, ups_get, Nat.reduceLT, List.getD_cons_zero, List.getD_cons_succ, List.length_cons, List.length_nil, IdxAddr_lst, Load_rp, call_up, ex_map_get, Int.toNat_natCast, Int.natCast_nonneg, Int.ofNat_lt, decide_false, reduceCtorEq, forall_const, false_implies, Nat.reduceAdd, if_true, if_false, Bool.false_eq_true, Nat.zero_add, Nat.reduceEqDiff, BinX_lss]
      exact ret1u Try.results64 (x := .int .i64 (-1)) rfl trivial (by rw [idxOf_miss (fun x hx => by obtain ⟨j, hj'⟩ := List.mem_iff_getElem?.1 hx; exact hj j (by have := (List.getElem?_eq_some_iff.1 hj').1; omega) x hj')])

set_option maxHeartbeats 400000 in
theorem indexFunc_69 {α : Type} (g : α → List V) (hg : ∀ a, (g a).length = 2) (hn : ∀ a, nrL (g a)) (l : List α) (h : FuncId) (caps : List V) (p : α → Bool) (hb : hasBody Try.prog h = true) (hc : nrL caps) (hp : ∀ a ∈ l, Fn1 Try.prog h ((.agg (g a)) :: caps) (fun r => r = .bool (p a))) :
    Fn1 Try.prog 69 [.lst (l.map fun a => .agg (g a)), .fn h caps] (fun r => r = .int .i64 (idxOf p l)) := by
  have htk : ∀ a, (g a).take 2 = g a := fun a => List.take_of_length_le (by rw [hg a]; exact Nat.le_refl _)
  refine fn1_walk Try.func69 rfl fun C hC => ?_
  simp only [Try.ntmps69, hC, isSli_47, W_seq, W_reg, W_block, W_loop, ThenC_normal, AOps_nil, AOps_plain, S_move, S_assign, S_len, val_tmp, val_cint, PutK_eq, LenK_lst, true_and, put_ups, put_cons, look_nil, look_cons, ups_get, Nat.reduceLT, List.getD_cons_zero, List.getD_cons_succ, List.length_cons, List.length_nil, List.length_map, List.replicate, List.cons_append, List.nil_append, reduceCtorEq, Nat.reduceAdd, Nat.reduceSub, if_true, if_false, Nat.zero_add, Nat.reduceEqDiff]
  intro hl
  refine w_loop (fun σ => ∃ k : Nat, k ≤ l.length ∧ (∀ j < k, ∀ x, l[j]? = some x → p x = false) ∧ σ = ⟨[.lst (l.map fun a => .agg (g a)), .fn h caps, .any, .any, .int .i64 0, .any, .any, .int .i64 l.length, .int .i64 k, .any, .any, .any, .any, .any, .any, .any, .any, .any, .any], []⟩) (fun σ => l.length - slotI 8 σ) ?_ ?_
  · exact up_to [0, 1, 4, 7, 8] [.lst (l.map fun a => .agg (g a)), .fn h caps, .any, .any, .int .i64 0, .any, .any, .int .i64 l.length, .int .i64 (0 : Nat), .any, .any, .any, .any, .any, .any, .any, .any, .any, .any] (by kernel_rfl) (up_intro ⟨0, Nat.zero_le _, by simp, rfl⟩)
  · rintro σ ⟨k, hk, hj, rfl⟩
    by_cases hlt : k < l.length
    · obtain ⟨x, hx⟩ : ∃ x, l[k]? = some x := ⟨_, List.getElem?_eq_getElem hlt⟩
      have hw := wrap_succ k (by rw [maxLen_eq] at hl; omega)
      simp only [hC, hlt, hx, htk, hg, ei_47, ti_72, W_seq, W_reg, W_condK, W_block, W_exit, W_ret, W_skip, ThenC_normal, ThenC_exit, InB_exit_same, AOps_nil, AOps_plain, CondK_bool, S_move, S_assign, S_bin, S_idxAddr, S_load, S_call, val_tmp, val_cint, PutK_eq, true_and, and_true, put_ups, put_cons, look_nil, look_cons, ups_get, Nat.reduceLT, List.getD_cons_zero, List.getD_cons_succ, List.length_cons, List.length_nil, IdxAddr_lst, Load_rp, call_up, ex_map_get, cells_agg, mkV_agg, Option.some.injEq, exists_eq_left', Int.toNat_natCast, Int.natCast_nonneg, Int.ofNat_lt, decide_true, reduceCtorEq, forall_const, false_implies, Nat.reduceAdd, Nat.le_refl, if_true, if_false, Nat.zero_add, Nat.reduceEqDiff, BinX_lss]
      refine call1 hC caps ((.agg (g x)) :: caps) hb (hp x (List.mem_of_getElem? hx)) (by kernel_rfl) (by kernel_rfl) ⟨hn x, hc⟩ ?_
      rintro r rfl
      simp only [hC, hw, W_seq, W_reg, W_condK, W_ret, W_skip, ThenC_normal, ThenC_ret, InB_normal, InB_ret, AOps_nil, AOps_plain, CondK_bool, S_move, S_assign, S_bin, val_tmp, val_cint, PutK_eq, true_and, put_ups, look_nil, look_cons, ups_get, Nat.reduceLT, List.getD_cons_zero, List.getD_cons_succ, List.length_cons, List.length_nil, Nat.reduceAdd, if_true, if_false, Nat.zero_add, Nat.reduceEqDiff, BinX_add]
      refine ⟨fun hpx => ret1u Try.results69 (x := .int .i64 k) rfl trivial ?_, fun hpx => up_to [0, 1, 4, 7, 8] [.lst (l.map fun a => .agg (g a)), .fn h caps, .any, .any, .int .i64 0, .any, .any, .int .i64 l.length, .int .i64 (k + 1 : Nat), .any, .any, .any, .any, .any, .any, .any, .any, .any, .any] (by kernel_rfl) (up_intro ⟨⟨k + 1, hlt, ?_, rfl⟩, ?_⟩)⟩
      · rw [idxOf_hit hx hpx hj]
      · intro j hjk y hy
        by_cases hjk' : j = k
        · subst hjk'; rw [hx] at hy; cases hy; exact hpx
        · exact hj j (by omega) y hy
      · show l.length - (k + 1) < l.length - k
        omega
    · simp only [hC, hlt, W_seq, W_reg, W_condK, W_block, W_exit, W_ret, W_skip, ThenC_normal, ThenC_exit, InB_exit_same, AOps_nil, AOps_plain, CondK_bool, S_move, S_assign, S_bin, S_idxAddr, S_load, S_call, val_tmp, val_cint, PutK_eq, true_and, put_ups, put_cons, look_nil, look_cons, ups_get, Nat.reduceLT, List.getD_cons_zero, List.getD_cons_succ, List.length_cons, List.length_nil, IdxAddr_lst, Load_rp, call_up, ex_map_get, cells_agg, Int.toNat_natCast, Int.natCast_nonneg, Int.ofNat_lt, decide_false, reduceCtorEq, forall_const, false_implies, Nat.reduceAdd, if_true, if_false, Bool.false_eq_true, Nat.zero_add, Nat.reduceEqDiff, BinX_lss]
      exact ret1u Try.results69 (x := .int .i64 (-1)) rfl trivial (by rw [idxOf_miss (fun x hx => by obtain ⟨j, hj'⟩ := List.mem_iff_getElem?.1 hx; exact hj j (by have := (List.getElem?_eq_some_iff.1 hj').1; omega) x hj')])

theorem containsFunc_43 {α : Type} (f : α → V) (hf : ∀ a, (f a).cells = [f a]) (hn : ∀ a, (f a).nr) (l : List α) (h : FuncId) (caps : List V) (p : α → Bool) (hb : hasBody Try.prog h = true) (hc : nrL caps) (hp : ∀ a ∈ l, Fn1 Try.prog h (f a :: caps) (fun r => r = .bool (p a))) :
    Fn1 Try.prog 43 [.lst (l.map f), .fn h caps] (fun r => r = .bool (l.any p)) := by
  refine fn1_walk Try.func43 rfl fun C hC => ?_
  simp only [Try.ntmps43, W_seq, W_reg, ThenC_normal, AOps_nil, AOps_plain, S_move, S_assign, S_call, val_tmp, val_cbool, PutK_eq, put_ups, put_cons, look_nil, look_cons, ups_get, Nat.reduceLT, List.getD_cons_zero, List.getD_cons_succ, List.length_cons, List.length_nil, List.replicate, List.cons_append, List.nil_append, call_up, reduceCtorEq, Nat.reduceAdd, Nat.reduceSub, if_true, if_false, Nat.zero_add, Nat.reduceEqDiff]
  refine call1 hC [] [.lst (l.map f), .fn h caps] hasBody_63 (indexFunc_63 f hf hn l h caps p hb hc hp) (by kernel_rfl) (by kernel_rfl) ⟨trivial, hc, trivial⟩ ?_
  rintro r rfl
  simp only [hC, W_ret, ThenC_normal, AOps_nil, AOps_plain, S_assign, S_bin, val_tmp, val_cint, PutK_eq, true_and, put_ups, look_nil, look_cons, ups_get, Nat.reduceLT, List.getD_cons_zero, List.getD_cons_succ, List.length_cons, List.length_nil, Nat.reduceAdd, if_true, if_false, Nat.zero_add, Nat.reduceEqDiff, BinX_geq]
  exact ret1u Try.results43 (x := .bool _) rfl trivial (by rw [idxOf_any])

theorem containsFunc_45 {α : Type} (f : α → V) (hf : ∀ a, (f a).cells = [f a]) (hn : ∀ a, (f a).nr) (l : List α) (h : FuncId) (caps : List V) (p : α → Bool) (hb : hasBody Try.prog h = true) (hc : nrL caps) (hp : ∀ a ∈ l, Fn1 Try.prog h (f a :: caps) (fun r => r = .bool (p a))) :
    Fn1 Try.prog 45 [.lst (l.map f), .fn h caps] (fun r => r = .bool (l.any p)) := by
  refine fn1_walk Try.func45 rfl fun C hC => ?_
  simp only [Try.ntmps45, W_seq, W_reg, ThenC_normal, AOps_nil, AOps_plain, S_move, S_assign, S_call, val_tmp, val_cbool, PutK_eq, put_ups, put_cons, look_nil, look_cons, ups_get, Nat.reduceLT, List.getD_cons_zero, List.getD_cons_succ, List.length_cons, List.length_nil, List.replicate, List.cons_append, List.nil_append, call_up, reduceCtorEq, Nat.reduceAdd, Nat.reduceSub, if_true, if_false, Nat.zero_add, Nat.reduceEqDiff]
  refine call1 hC [] [.lst (l.map f), .fn h caps] hasBody_64 (indexFunc_64 f hf hn l h caps p hb hc hp) (by kernel_rfl) (by kernel_rfl) ⟨trivial, hc, trivial⟩ ?_
  rintro r rfl
  simp only [hC, W_ret, ThenC_normal, AOps_nil, AOps_plain, S_assign, S_bin, val_tmp, val_cint, PutK_eq, true_and, put_ups, look_nil, look_cons, ups_get, Nat.reduceLT, List.getD_cons_zero, List.getD_cons_succ, List.length_cons, List.length_nil, Nat.reduceAdd, if_true, if_false, Nat.zero_add, Nat.reduceEqDiff, BinX_geq]
  exact ret1u Try.results45 (x := .bool _) rfl trivial (by rw [idxOf_any])

theorem containsFunc_50 {α : Type} (g : α → List V) (hg : ∀ a, (g a).length = 2) (hn : ∀ a, nrL (g a)) (l : List α) (h : FuncId) (caps : List V) (p : α → Bool) (hb : hasBody Try.prog h = true) (hc : nrL caps) (hp : ∀ a ∈ l, Fn1 Try.prog h ((.agg (g a)) :: caps) (fun r => r = .bool (p a))) :
    Fn1 Try.prog 50 [.lst (l.map fun a => .agg (g a)), .fn h caps] (fun r => r = .bool (l.any p)) := by
  refine fn1_walk Try.func50 rfl fun C hC => ?_
  simp only [Try.ntmps50, W_seq, W_reg, ThenC_normal, AOps_nil, AOps_plain, S_move, S_assign, S_call, val_tmp, val_cbool, PutK_eq, put_ups, put_cons, look_nil, look_cons, ups_get, Nat.reduceLT, List.getD_cons_zero, List.getD_cons_succ, List.length_cons, List.length_nil, List.replicate, List.cons_append, List.nil_append, call_up, reduceCtorEq, Nat.reduceAdd, Nat.reduceSub, if_true, if_false, Nat.zero_add, Nat.reduceEqDiff]
  refine call1 hC [] [.lst (l.map fun a => .agg (g a)), .fn h caps] hasBody_69 (indexFunc_69 g hg hn l h caps p hb hc hp) (by kernel_rfl) (by kernel_rfl) ⟨trivial, hc, trivial⟩ ?_
  rintro r rfl
  simp only [hC, W_ret, ThenC_normal, AOps_nil, AOps_plain, S_assign, S_bin, val_tmp, val_cint, PutK_eq, true_and, put_ups, look_nil, look_cons, ups_get, Nat.reduceLT, List.getD_cons_zero, List.getD_cons_succ, List.length_cons, List.length_nil, Nat.reduceAdd, if_true, if_false, Nat.zero_add, Nat.reduceEqDiff, BinX_geq]
  exact ret1u Try.results50 (x := .bool _) rfl trivial (by rw [idxOf_any])

set_option maxHeartbeats 400000 in
theorem index_70 (l : List (List UInt8)) (q : List UInt8) :
    Fn1 Try.prog 70 [.lst (l.map V.str), .str q] (fun r => r = .int .i64 (idxOf (fun x => decide (q = x)) l)) := by
  refine fn1_walk Try.func70 rfl fun C hC => ?_
  simp only [Try.ntmps70, hC, isSli_48, W_seq, W_reg, W_block, W_loop, ThenC_normal, AOps_nil, AOps_plain, S_move, S_assign, S_len, val_tmp, val_cint, PutK_eq, LenK_lst, true_and, put_ups, put_cons, look_nil, look_cons, ups_get, Nat.reduceLT, List.getD_cons_zero, List.getD_cons_succ, List.length_cons, List.length_nil, List.length_map, List.replicate, List.cons_append, List.nil_append, reduceCtorEq, Nat.reduceAdd, Nat.reduceSub, if_true, if_false, Nat.zero_add, Nat.reduceEqDiff]
  intro hl
  refine w_loop (fun σ => ∃ k : Nat, k ≤ l.length ∧ (∀ j < k, ∀ x, l[j]? = some x → decide (q = x) = false) ∧ σ = ⟨[.lst (l.map V.str), .str q, .any, .any, .int .i64 0, .any, .any, .int .i64 l.length, .int .i64 k, .any, .any, .any, .any, .any, .any, .any, .any, .any, .any], []⟩) (fun σ => l.length - slotI 8 σ) ?_ ?_
  · exact up_to [0, 1, 4, 7, 8] [.lst (l.map V.str), .str q, .any, .any, .int .i64 0, .any, .any, .int .i64 l.length, .int .i64 (0 : Nat), .any, .any, .any, .any, .any, .any, .any, .any, .any, .any] (by kernel_rfl) (up_intro ⟨0, Nat.zero_le _, by simp, rfl⟩)
  · rintro σ ⟨k, hk, hj, rfl⟩
    by_cases hlt : k < l.length
    · obtain ⟨x, hx⟩ : ∃ x, l[k]? = some x := ⟨_, List.getElem?_eq_getElem hlt⟩
      have hw := wrap_succ k (by rw [maxLen_eq] at hl; omega)
      simp only [hC, hlt, hx, hw, ei_48, ti_9, W_seq, W_reg, W_condK, W_block, W_exit, W_ret, W_skip, ThenC_normal, ThenC_exit, ThenC_ret, InB_normal, InB_exit_same, InB_ret, AOps_nil, AOps_plain, CondK_bool, S_move, S_assign, S_bin, S_idxAddr, S_load, val_tmp, val_cint, PutK_eq, true_and, and_true, put_ups, put_cons, look_nil, look_cons, ups_get, Nat.reduceLT, List.getD_cons_zero, List.getD_cons_succ, List.length_cons, List.length_nil, IdxAddr_lst, Load_rp, ex_map_get, cells_str, mkV_one, Option.some.injEq, exists_eq_left', Int.toNat_natCast, Int.natCast_nonneg, Int.ofNat_lt, decide_true, List.take_succ_cons, List.take_zero, implies_true, reduceCtorEq, forall_const, false_implies, Nat.reduceAdd, Nat.le_refl, if_true, if_false, Nat.zero_add, Nat.reduceEqDiff, BinX_add, BinX_lss, BinX_seq]
      refine ⟨fun hpx => ret1u Try.results70 (x := .int .i64 k) rfl trivial ?_, fun hpx => up_to [0, 1, 4, 7, 8] [.lst (l.map V.str), .str q, .any, .any, .int .i64 0, .any, .any, .int .i64 l.length, .int .i64 (k + 1 : Nat), .any, .any, .any, .any, .any, .any, .any, .any, .any, .any] (by kernel_rfl) (up_intro ⟨⟨k + 1, hlt, ?_, rfl⟩, ?_⟩)⟩
      · rw [idxOf_hit (p := fun x => decide (q = x)) hx hpx hj]
      · intro j hjk y hy
        by_cases hjk' : j = k
        · subst hjk'; rw [hx] at hy; cases hy; exact hpx
        · exact hj j (by omega) y hy
      · show l.length - (k + 1) < l.length - k
        omega
    · simp only [hC, hlt, W_seq, W_reg, W_condK, W_block, W_exit, W_ret, W_skip, ThenC_normal, ThenC_exit, InB_exit_same, AOps_nil, AOps_plain, CondK_bool, S_move, S_assign, S_bin, S_idxAddr, S_load, val_tmp, val_cint, PutK_eq, true_and, put_ups, put_cons, look_nil, look_cons, ups_get, Nat.reduceLT, List.getD_cons_zero, List.getD_cons_succ, List.length_cons, List.length_nil, IdxAddr_lst, Load_rp, ex_map_get, cells_str, Int.toNat_natCast, Int.natCast_nonneg, Int.ofNat_lt, decide_false, reduceCtorEq, forall_const, false_implies, Nat.reduceAdd, if_true, if_false, Bool.false_eq_true, Nat.zero_add, Nat.reduceEqDiff, BinX_lss]
      exact ret1u Try.results70 (x := .int .i64 (-1)) rfl trivial (by rw [idxOf_miss (fun x hx => by obtain ⟨j, hj'⟩ := List.mem_iff_getElem?.1 hx; exact hj j (by have := (List.getElem?_eq_some_iff.1 hj').1; omega) x hj')])

theorem contains_52 (l : List (List UInt8)) (q : List UInt8) : Fn1 Try.prog 52 [.lst (l.map V.str), .str q] (fun r => r = .bool (decide (q ∈ l))) := by
  refine fn1_walk Try.func52 rfl fun C hC => ?_
  simp only [Try.ntmps52, W_seq, W_reg, ThenC_normal, AOps_nil, AOps_plain, S_move, S_assign, S_call, val_tmp, val_cbool, PutK_eq, put_ups, put_cons, look_nil, look_cons, ups_get, Nat.reduceLT, List.getD_cons_zero, List.getD_cons_succ, List.length_cons, List.length_nil, List.replicate, List.cons_append, List.nil_append, call_up, reduceCtorEq, Nat.reduceAdd, Nat.reduceSub, if_true, if_false, Nat.zero_add, Nat.reduceEqDiff]
  refine call1 hC [] [.lst (l.map V.str), .str q] hasBody_70 (index_70 l q) (by kernel_rfl) (by kernel_rfl) ⟨trivial, trivial, trivial⟩ ?_
  rintro r rfl
  simp only [hC, W_ret, ThenC_normal, AOps_nil, AOps_plain, S_assign, S_bin, val_tmp, val_cint, PutK_eq, true_and, put_ups, look_nil, look_cons, ups_get, Nat.reduceLT, List.getD_cons_zero, List.getD_cons_succ, List.length_cons, List.length_nil, Nat.reduceAdd, if_true, if_false, Nat.zero_add, Nat.reduceEqDiff, BinX_geq]
  exact ret1u Try.results52 (x := .bool _) rfl trivial (by rw [idxOf_any]; congr 1; rw [Bool.eq_iff_iff]; simp)

end Go.Proofs.Yteabokphchpifaa
