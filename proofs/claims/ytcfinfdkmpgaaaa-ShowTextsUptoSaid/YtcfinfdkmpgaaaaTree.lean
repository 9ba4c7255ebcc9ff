/- tree.Count and the document's TreeCount, walked. No conditions. -/
import Derived.Test.YtcfinfdkmpgaaaaData
set_option linter.unusedSimpArgs false
set_option linter.unusedVariables false
set_option maxRecDepth 100000
namespace Go.Proofs.Ytcfinfdkmpgaaaa
open Go.RowKit

mutual
def cntN : Nd → Nat
  | .mk _ _ _ ps => 1 + cntL ps
def cntL : List Nd → Nat
  | [] => 0
  | n :: ns => cntN n + cntL ns
end
mutual
def depN : Nd → Nat
  | .mk _ _ _ ps => 1 + depL ps
def depL : List Nd → Nat
  | [] => 0
  | n :: ns => max (depN n) (depL ns)
end
theorem cntN_eq (n : Nd) : cntN n = 1 + cntL n.parts := by cases n; simp [cntN, Nd.parts]
theorem depN_eq (n : Nd) : depN n = 1 + depL n.parts := by cases n; simp [depN, Nd.parts]
theorem cntL_app : ∀ a b, cntL (a ++ b) = cntL a + cntL b
  | [], b => by simp [cntL]
  | n :: a, b => by simp only [List.cons_append, cntL, cntL_app a b]; omega
theorem depL_app : ∀ a b, depL (a ++ b) = max (depL a) (depL b)
  | [], b => by simp [depL]
  | n :: a, b => by simp only [List.cons_append, depL, depL_app a b]; omega
theorem szP {n : Nd} : szL n.parts < szN n := by cases n; simp only [Nd.parts, szN]; omega
theorem maxI_nat (a b : Nat) : maxI (a : Int) (b : Int) = ((max a b : Nat) : Int) := by unfold maxI; split <;> omega
mutual
theorem cntN_sz : ∀ n, cntN n ≤ szN n
  | .mk n a t ps => by have := cntL_sz ps; simp [cntN, szN, szS]; omega
theorem cntL_sz : ∀ ps, cntL ps ≤ szL ps
  | [] => by simp [cntL, szL]
  | n :: ns => by have := cntN_sz n; have := cntL_sz ns; simp [cntL, szL]; omega
end
mutual
theorem depN_cnt : ∀ n, depN n ≤ cntN n
  | .mk n a t ps => by have := depL_cnt ps; simp [cntN, depN]; omega
theorem depL_cnt : ∀ ps, depL ps ≤ cntL ps
  | [] => by simp [cntL, depL]
  | n :: ns => by have := depN_cnt n; have := depL_cnt ns; simp [cntL, depL]; omega
end
theorem cnt_take {ps : List Nd} {k : Nat} {x : Nd} (hx : ps[k]? = some x) : cntL (ps.take (k + 1)) = cntL (ps.take k) + cntN x := by
  rw [List.take_add_one, hx, cntL_app]; simp [cntL]
theorem dep_take {ps : List Nd} {k : Nat} {x : Nd} (hx : ps[k]? = some x) : depL (ps.take (k + 1)) = max (depL (ps.take k)) (depN x) := by
  rw [List.take_add_one, hx, depL_app]; simp [depL]
theorem cnt_take_le {ps : List Nd} {k : Nat} : cntL (ps.take k) ≤ cntL ps := by
  have := cntL_app (ps.take k) (ps.drop k)
  rw [List.take_append_drop] at this
  omega
theorem dep_take_le {ps : List Nd} {k : Nat} : depL (ps.take k) ≤ depL ps := by
  have := depL_app (ps.take k) (ps.drop k)
  rw [List.take_append_drop] at this
  omega

theorem tree_count : ∀ (N : Nat) (ps : List Nd), szL ps ≤ N → N ≤ 1099511627776 → Fn1 Try.prog 54 [.lst (nodesL ps)] (fun r => r = .tup [.int .i64 (cntL ps), .int .i64 (depL ps)]) := by
  intro N
  induction N using Nat.strongRecOn with
  | _ N ih =>
    intro ps hps hN
    have hc := cntL_sz ps
    have hd := depL_cnt ps
    have hlm := nodesL_length ps
    refine fn1E (T := Try.tt) Try.func54 rfl tt_all follows_all ?_ ?_ fun C hC hE => ?_
    · kernel_rfl
    · exact Nat.le_of_ble_eq_true (by kernel_rfl)
    conv => whnf
    intro hl
    conv => whnf
    refine loopE (fun k : Nat => ⟨31, [(0, .lst (nodesL ps)), (2, .int .i64 (cntL (ps.take k))), (3, .int .i64 (depL (ps.take k))), (8, .lst (nodesL ps)), (9, .int .i64 (nodesL ps).length), (10, .int .i64 k)], []⟩) (fun k => k ≤ ps.length) (fun k => ps.length - k) 0 hE ?_ ?_ (Nat.zero_le _) ?_
    · kernel_rfl
    · exact at_keep [0, 2, 3, 8, 9, 10] rfl
    intro k hk
    by_cases hlt : k < ps.length
    · obtain ⟨n, a, t, qs, hx, hx'⟩ := node_at hlt
      have hp2 := szL_mem (List.mem_of_getElem? hx)
      have hp1 : szL qs < szN (.mk n a t qs) := szP (n := .mk n a t qs)
      have hp3 := cntL_sz qs
      have hp4 := depL_cnt qs
      have t1 := cnt_take hx
      have t2 := dep_take hx
      have t3 := @cnt_take_le ps (k + 1)
      have t4 := @dep_take_le ps (k + 1)
      rw [cntN_eq] at t1
      rw [depN_eq] at t2
      simp only [Nd.parts] at t1 t2
      have ih' := ih (szL qs) (by omega) qs (Nat.le_refl _) (by omega)
      conv => whnf
      repeat' (first | (refine brd_t (by first | assumption | omega) ?_; conv => whnf) | (refine brd_f (by first | assumption | omega) ?_; conv => whnf) | (refine ask (by first | assumption | omega) ?_; conv => whnf) | (refine fit64 (by omega) ?_; conv => whnf) | (refine fit (by simp only [kmin, kmax]; omega) ?_; conv => whnf) | (refine br_t (by assumption) ?_; conv => whnf) | (refine br_f (by assumption) ?_; conv => whnf) | (refine get_of (by assumption) ?_; conv => whnf) | (refine get_map (by assumption) ?_; conv => whnf) | (refine call_eq (ih') hC hasBody_54 ?_ ?_ ?_; kernel_rfl; kernel_rfl; conv => whnf) | (refine callq_eq (ih') hC hasBody_54 ?_ ?_ ?_; kernel_rfl; kernel_rfl; conv => whnf) | (refine brd (fun h => ?_) (fun h => ?_) <;> conv => whnf) | (refine br (fun h => ?_) (fun h => ?_) <;> conv => whnf) | (refine ret_now hE ?_; conv => whnf) | (intro hlen; conv => whnf))
      refine next_wipe [0, 2, 3, 8, 9, 10] (k + 1) (by kernel_rfl) hlt (by omega) ?_
      conv => whnf
      have e1 : ((cntL (ps.take k) : Int) + ((cntL qs : Int) + 1)) = ((cntL (ps.take (k + 1)) : Nat) : Int) := by omega
      have e2 : maxI (depL (ps.take k)) ((depL qs : Int) + 1) = ((depL (ps.take (k + 1)) : Nat) : Int) := by
        rw [show ((depL qs : Int) + 1) = ((depL qs + 1 : Nat) : Int) from rfl, maxI_nat]; omega
      rw [e1, e2]
      rfl
    · conv => whnf
      repeat' (first | (refine brd_t (by first | assumption | omega) ?_; conv => whnf) | (refine brd_f (by first | assumption | omega) ?_; conv => whnf) | (refine ask (by first | assumption | omega) ?_; conv => whnf) | (refine fit64 (by omega) ?_; conv => whnf) | (refine fit (by simp only [kmin, kmax]; omega) ?_; conv => whnf) | (refine br_t (by assumption) ?_; conv => whnf) | (refine br_f (by assumption) ?_; conv => whnf) | (refine get_of (by assumption) ?_; conv => whnf) | (refine get_map (by assumption) ?_; conv => whnf) | (refine brd (fun h => ?_) (fun h => ?_) <;> conv => whnf) | (refine br (fun h => ?_) (fun h => ?_) <;> conv => whnf) | (refine ret_now hE ?_; conv => whnf) | (intro hlen; conv => whnf))
      have e : ps.take k = ps := List.take_of_length_le (by omega)
      exact ⟨rfl, by rw [e]⟩

theorem cnt_level : ∀ ps : List Nd, cntL ps = ps.length + cntL (ps.flatMap Nd.parts)
  | [] => by simp [cntL]
  | n :: ns => by rw [List.flatMap_cons, cntL_app, cntL, cntN_eq, cnt_level ns, List.length_cons]; omega
theorem dep_level : ∀ ps : List Nd, depL ps = if ps = [] then 0 else 1 + depL (ps.flatMap Nd.parts)
  | [] => by simp [depL]
  | n :: ns => by
    rw [if_neg (by simp), List.flatMap_cons, depL_app, depL, depN_eq, dep_level ns]
    split
    · rename_i h; subst h; simp [depL]
    · omega
theorem sz_level : ∀ ps : List Nd, szL (ps.flatMap Nd.parts) ≤ szL ps
  | [] => by simp [szL]
  | n :: ns => by rw [List.flatMap_cons, szL_append, szL]; have := @szP n; have := sz_level ns; omega

theorem tree_count_ref (ps : List Nd) (hsz : szL ps ≤ 1099511627776) : Fn1 Try.prog 56 [.lst (nodesL ps)] (fun r => r = .tup [.int .i64 (cntL ps), .int .i64 (depL ps)]) := by
  have hc := cntL_sz ps
  have hd := depL_cnt ps
  refine fn1E (T := Try.tt) Try.func56 rfl tt_all follows_all ?_ ?_ fun C hC hE => ?_
  · kernel_rfl
  · exact Nat.le_of_ble_eq_true (by kernel_rfl)
  conv => whnf
  refine loopE (fun ((cur, c, d) : List Nd × Nat × Nat) => ⟨32, [(0, .lst (nodesL cur)), (4, .int .i64 c), (5, .int .i64 d)], []⟩) (fun (cur, c, d) => c + cntL cur = cntL ps ∧ d + depL cur = depL ps ∧ szL cur ≤ szL ps) (fun (_, _, d) => depL ps - d) (ps, 0, 0) hE ?_ ?_ ⟨by simp, by simp, Nat.le_refl _⟩ ?_
  · kernel_rfl
  · exact at_keep [0, 4, 5] rfl
  rintro ⟨cur, c, d⟩ ⟨h1, h2, h3⟩
  have hlm := nodesL_length cur
  have hl1 := szL_len cur
  have lv1 := cnt_level cur
  have lv2 := dep_level cur
  have lv3 := sz_level cur
  by_cases hne : cur = []
  · have h0 : cur.length = 0 := by rw [hne]; rfl
    conv => whnf
    repeat' (first | (refine brd_t (by first | assumption | omega) ?_; conv => whnf) | (refine brd_f (by first | assumption | omega) ?_; conv => whnf) | (refine ask (by first | assumption | omega) ?_; conv => whnf) | (refine fit64 (by omega) ?_; conv => whnf) | (refine fit (by simp only [kmin, kmax]; omega) ?_; conv => whnf) | (refine br_t (by assumption) ?_; conv => whnf) | (refine br_f (by assumption) ?_; conv => whnf) | (refine get_of (by assumption) ?_; conv => whnf) | (refine get_map (by assumption) ?_; conv => whnf) | (refine brd (fun h => ?_) (fun h => ?_) <;> conv => whnf) | (refine br (fun h => ?_) (fun h => ?_) <;> conv => whnf) | (refine ret_now hE ?_; conv => whnf) | (intro hlen; conv => whnf))
    rw [if_pos hne] at lv2
    rw [hne] at h1
    refine ⟨rfl, ?_⟩
    rw [show c = cntL ps by simp [cntL] at h1; omega, show d = depL ps by omega]
  · have hpos : 0 < cur.length := List.length_pos_iff.2 hne
    rw [if_neg hne] at lv2
    conv => whnf
    repeat' (first | (refine brd_t (by first | assumption | omega) ?_; conv => whnf) | (refine brd_f (by first | assumption | omega) ?_; conv => whnf) | (refine ask (by first | assumption | omega) ?_; conv => whnf) | (refine fit64 (by omega) ?_; conv => whnf) | (refine fit (by simp only [kmin, kmax]; omega) ?_; conv => whnf) | (refine br_t (by assumption) ?_; conv => whnf) | (refine br_f (by assumption) ?_; conv => whnf) | (refine get_of (by assumption) ?_; conv => whnf) | (refine get_map (by assumption) ?_; conv => whnf) | (refine brd (fun h => ?_) (fun h => ?_) <;> conv => whnf) | (refine br (fun h => ?_) (fun h => ?_) <;> conv => whnf) | (refine ret_now hE ?_; conv => whnf) | (intro hlen; conv => whnf))
    refine loopE (fun k : Nat => ⟨32, [(0, .lst (nodesL cur)), (4, .int .i64 ((c : Int) + (nodesL cur).length)), (5, .int .i64 ((d : Int) + 1)), (6, .sl 0 0 ((cur.take k).flatMap Nd.parts).length), (18, .lst (nodesL cur)), (19, .int .i64 (nodesL cur).length), (20, .int .i64 k)], [some (.row 4 (nodesL ((cur.take k).flatMap Nd.parts)))]⟩)
      (fun k => k ≤ cur.length) (fun k => cur.length - k) 0 hE ?_ ?_ (Nat.zero_le _) ?_
    · kernel_rfl
    · exact up_own 6 4 rfl rfl (at_keep [0, 4, 5, 6, 18, 19, 20] rfl)
    intro k hk
    by_cases hlt : k < cur.length
    · obtain ⟨n, a, t, qs, hx, hx'⟩ := node_at hlt
      have hfl : (cur.take (k + 1)).flatMap Nd.parts = (cur.take k).flatMap Nd.parts ++ qs := by rw [List.take_add_one, hx, List.flatMap_append]; simp [Nd.parts]
      have hln : ((cur.take k).flatMap Nd.parts).length + qs.length ≤ szL ps := by
        have q1 := szL_len ((cur.take (k + 1)).flatMap Nd.parts)
        have q2 := sz_level (cur.take (k + 1))
        have q3 := szL_append (cur.take (k + 1)) (cur.drop (k + 1))
        rw [List.take_append_drop] at q3
        rw [hfl] at q1 q2
        rw [List.length_append] at q1
        omega
      have hn1 := nodesL_length ((cur.take k).flatMap Nd.parts)
      have hn2 := nodesL_length qs
      conv => whnf
      repeat' (first | (refine brd_t (by first | assumption | omega) ?_; conv => whnf) | (refine brd_f (by first | assumption | omega) ?_; conv => whnf) | (refine ask (by first | assumption | omega) ?_; conv => whnf) | (refine fit64 (by omega) ?_; conv => whnf) | (refine fit (by simp only [kmin, kmax]; omega) ?_; conv => whnf) | (refine br_t (by assumption) ?_; conv => whnf) | (refine br_f (by assumption) ?_; conv => whnf) | (refine get_of (by assumption) ?_; conv => whnf) | (refine get_map (by assumption) ?_; conv => whnf) | (refine ⟨cells_nodes qs, ?_⟩; conv => whnf) | (refine brd (fun h => ?_) (fun h => ?_) <;> conv => whnf) | (refine br (fun h => ?_) (fun h => ?_) <;> conv => whnf) | (refine ret_now hE ?_; conv => whnf) | (intro hlen; conv => whnf))
      refine next_drop [0, 4, 5, 6, 18, 19, 20] [1] (k + 1) hlt (by omega) ?_
      conv => whnf
      have htk : List.take ((cur.take k).flatMap Nd.parts).length (List.drop 0 (nodesL ((cur.take k).flatMap Nd.parts))) = nodesL ((cur.take k).flatMap Nd.parts) := by rw [List.drop_zero]; exact List.take_of_length_le (by omega)
      simp only [htk, killL_append, kill_nodes, hfl, nodesL_append, List.length_append, hn2]
      rfl
    · conv => whnf
      repeat' (first | (refine brd_t (by first | assumption | omega) ?_; conv => whnf) | (refine brd_f (by first | assumption | omega) ?_; conv => whnf) | (refine ask (by first | assumption | omega) ?_; conv => whnf) | (refine fit64 (by omega) ?_; conv => whnf) | (refine fit (by simp only [kmin, kmax]; omega) ?_; conv => whnf) | (refine br_t (by assumption) ?_; conv => whnf) | (refine br_f (by assumption) ?_; conv => whnf) | (refine get_of (by assumption) ?_; conv => whnf) | (refine get_map (by assumption) ?_; conv => whnf) | (refine brd (fun h => ?_) (fun h => ?_) <;> conv => whnf) | (refine br (fun h => ?_) (fun h => ?_) <;> conv => whnf) | (refine ret_now hE ?_; conv => whnf) | (intro hlen; conv => whnf))
      have hfl : (cur.take k).flatMap Nd.parts = cur.flatMap Nd.parts := by rw [List.take_of_length_le (by omega)]
      rw [hfl]
      have hn1 := nodesL_length (cur.flatMap Nd.parts)
      refine up_freeze 0 (z := 4) (els := nodesL (cur.flatMap Nd.parts)) rfl (nodesL_nr _) ?_
      have htk : List.take (cur.flatMap Nd.parts).length (List.drop 0 (nodesL (cur.flatMap Nd.parts))) = nodesL (cur.flatMap Nd.parts) := by rw [List.drop_zero]; exact List.take_of_length_le (by omega)
      have hle : 0 + (cur.flatMap Nd.parts).length ≤ (nodesL (cur.flatMap Nd.parts)).length := by omega
      simp only [frzU, List.map_cons, List.map_nil, frz_sl, frz_lst, frz_int, frz_bool, frz_str, frz_rp, frz_nils, frz_fn, frzL_nil, frzL_cons, frz_tup, frz_agg, if_true]
      simp only [if_pos hle, htk]
      refine next_drop [0, 4, 5] [] (cur.flatMap Nd.parts, c + cur.length, d + 1) ⟨(show c + cur.length + cntL (cur.flatMap Nd.parts) = cntL ps by omega), (show d + 1 + depL (cur.flatMap Nd.parts) = depL ps by omega), (show szL (cur.flatMap Nd.parts) ≤ szL ps by omega)⟩ (show depL ps - (d + 1) < depL ps - d by omega) ?_
      conv => whnf
      rw [hlm]
      rfl
end Go.Proofs.Ytcfinfdkmpgaaaa
