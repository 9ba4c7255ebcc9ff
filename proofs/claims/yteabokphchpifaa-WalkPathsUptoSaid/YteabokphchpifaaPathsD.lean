/- The document's WalkPaths, walked; the law WalkPaths. No conditions. -/
import Derived.Test.YteabokphchpifaaPaths
set_option linter.unusedSimpArgs false
set_option linter.unusedVariables false
set_option maxRecDepth 100000
namespace Go.Proofs.Yteabokphchpifaa
open Go.RowKit

theorem sz_take {l : List Nd} {k : Nat} {x : Nd} (hx : l[k]? = some x) : szL (l.take (k + 1)) = szL (l.take k) + szN x := by
  rw [szL_sum, szL_sum, List.take_add_one, hx, List.map_append, List.sum_append]
  simp
theorem sz_take_le (l : List Nd) (k : Nat) : szL (l.take k) ≤ szL l := by
  rw [szL_sum, szL_sum]
  induction l generalizing k with
  | nil => simp
  | cons x l ih =>
    cases k with
    | zero => simp
    | succ k => simp only [List.take_succ_cons, List.map_cons, List.sum_cons]; have := ih k; omega
def goV : V := .fn 41 [.ptr 0 0 0, .ptr 1 0 0]
set_option maxHeartbeats 16000000 in
theorem h_go : ∀ (N : Nat) (l : List Nd) (path : List Int) (out : List (List Int)), szL l ≤ N → out.length + szL l ≤ 2097152 → path.length + szL l ≤ 2097152 →
    HFn Try.prog 41 [ints path, .lst (nodesL l), .ptr 0 0 0, .ptr 1 0 0] [.row 1 [.sl 2 0 out.length], .row 1 [goV], .row 1 (pthV out)] [0, 1]
    (fun r o => r = .tup [] ∧ o = [.row 1 [.sl 2 0 (out ++ (pthL 0 l).map (fun p => path ++ p)).length], .row 1 [goV], .row 1 (pthV (out ++ (pthL 0 l).map (fun p => path ++ p)))]) := by
  intro N
  induction N using Nat.strongRecOn with
  | _ N ih =>
    intro l path out hps hb1 hb2
    have hlm := nodesL_length l
    have hll := szL_len l
    refine hfnE (T := Try.tt) Try.func41 rfl tt_all follows_all ?_ ?_ fun C vs hC hE => ?_
    · kernel_rfl
    · exact Nat.le_of_ble_eq_true (by kernel_rfl)
    conv => whnf
    repeat' (first | (refine brd_t (by first | assumption | omega) ?_; conv => whnf) | (refine brd_f (by first | assumption | omega) ?_; conv => whnf) | (refine ask (by first | assumption | omega) ?_; conv => whnf) | (refine fit64 (by omega) ?_; conv => whnf) | (refine fit (by simp only [kmin, kmax]; omega) ?_; conv => whnf) | (refine br_t (by assumption) ?_; conv => whnf) | (refine br_f (by assumption) ?_; conv => whnf) | (refine get_of (by assumption) ?_; conv => whnf) | (refine get_map (by assumption) ?_; conv => whnf) | (refine brd (fun h => ?_) (fun h => ?_) <;> conv => whnf) | (refine br (fun h => ?_) (fun h => ?_) <;> conv => whnf) | (refine ret_now hE ?_; conv => whnf) | (intro hlen; conv => whnf))
    refine loopE (fun ((k, cur) : Nat × List (List Int)) => ⟨31, [(0, ints path), (1, .lst (nodesL l)), (2, .ptr 0 0 0), (3, .ptr 1 0 0), (8, .lst (nodesL l)), (9, .int .i64 (nodesL l).length), (10, .int .i64 k)], [some (.row 1 [.sl 2 0 cur.length]), some (.row 1 [goV]), some (.row 1 (pthV cur)), some (.hid vs [ints path, .lst (nodesL l), .ptr 0 0 0, .ptr 1 0 0])]⟩)
      (fun (k, cur) => k ≤ l.length ∧ cur.length ≤ out.length + szL (l.take k) ∧ cur ++ (pthL k (l.drop k)).map (fun p => path ++ p) = out ++ (pthL 0 l).map (fun p => path ++ p)) (fun (k, _) => l.length - k) (0, out) hE ?_ ?_ ⟨Nat.zero_le _, Nat.le_add_right _ _, rfl⟩ ?_
    · kernel_rfl
    · exact at_keep [0, 1, 2, 3, 8, 9, 10] rfl
    rintro ⟨k, cur⟩ ⟨hk, hcl, hI⟩
    have hom := pthV_len cur
    have htl := sz_take_le l k
    have htk : List.take cur.length (List.drop 0 (pthV cur)) = pthV cur := by rw [List.drop_zero]; exact List.take_of_length_le (by omega)
    by_cases hlt : k < l.length
    · obtain ⟨n, a, t, qs, hx, hx'⟩ := node_at hlt
      have hst := pthL_step hx
      rw [hst] at hI
      have hp2 := szL_mem (List.mem_of_getElem? hx)
      have e1 : szN (.mk n a t qs) = (n.length + 1) + ((a.map szA).sum + 1) + (t.length + 1) + (szL qs + 1) + 1 := by simp only [szN, szS]
      have htl2 := sz_take_le l (k + 1)
      have hszk := sz_take hx
      have hqs := pthL_sz qs 0
      have hss : pthS (.mk n a t qs) = pthL 0 qs := by rw [pthS]
      have hpl : (path ++ [(k : Int)]).length = (path : List Int).length + 1 := by simp
      have hcl2 : (cur ++ [path ++ [(k : Int)]]).length = cur.length + 1 := by simp
      have ih' := ih (szL qs) (by omega) qs (path ++ [(k : Int)]) (cur ++ [path ++ [(k : Int)]]) (Nat.le_refl _) (by omega) (by omega)
      have hP : killL 2 (killL 4 (List.take ((path : List Int).map (V.int .i64)).length (List.drop 0 ((path : List Int).map (V.int .i64))) ++ List.take 1 (List.drop 0 [V.int .i64 (k : Int)]))) = (path ++ [(k : Int)]).map (V.int .i64) := by
        rw [List.drop_zero, List.take_of_length_le (Nat.le_refl _), show ((path : List Int).map (V.int .i64)) ++ List.take 1 (List.drop 0 [V.int .i64 (k : Int)]) = (path ++ [(k : Int)]).map (V.int .i64) by first | rfl | (rw [List.map_append]; rfl), kill_nrL _ (ints_nr _), kill_nrL _ (ints_nr _)]
      have hPl : ((path : List Int).map (V.int .i64)).length + (List.take 1 (List.drop 0 [V.int .i64 (k : Int)])).length = ((path ++ [(k : Int)]).map (V.int .i64)).length := by simp
      have hF : frzL 4 ((path ++ [(k : Int)]).map (V.int .i64)) [V.sl 4 0 (((path : List Int).map (V.int .i64)).length + (List.take 1 (List.drop 0 [V.int .i64 (k : Int)])).length)] = [ints (path ++ [(k : Int)])] := by
        rw [hPl, frzL_cons, frz_sl, if_pos rfl, if_pos (by omega), List.drop_zero, List.take_of_length_le (Nat.le_refl _), frzL_nil]
        rfl
      have hR : killL 6 (killL 5 (frzL 4 ((path ++ [(k : Int)]).map (V.int .i64)) (killL 2 (List.take cur.length (List.drop 0 (killL 4 (pthV cur))) ++ List.take 1 (List.drop 0 [V.sl 4 0 (((path : List Int).map (V.int .i64)).length + (List.take 1 (List.drop 0 [V.int .i64 (k : Int)])).length)]))))) = pthV (cur ++ [path ++ [(k : Int)]]) := by
        rw [pthV_kill, htk, killL_app, pthV_kill, frzL_app, pthV_frz, show killL 2 (List.take 1 (List.drop 0 [V.sl 4 0 (((path : List Int).map (V.int .i64)).length + (List.take 1 (List.drop 0 [V.int .i64 (k : Int)])).length)])) = [V.sl 4 0 (((path : List Int).map (V.int .i64)).length + (List.take 1 (List.drop 0 [V.int .i64 (k : Int)])).length)] from rfl, hF, show pthV cur ++ [ints (path ++ [(k : Int)])] = pthV (cur ++ [path ++ [(k : Int)]]) by rw [pthV_app]; rfl, pthV_kill, pthV_kill]
      have hCl : cur.length + (List.take 1 (List.drop 0 [V.sl 4 0 (((path : List Int).map (V.int .i64)).length + (List.take 1 (List.drop 0 [V.int .i64 (k : Int)])).length)])).length = (cur ++ [path ++ [(k : Int)]]).length := by simp
      conv => whnf
      repeat' (first | (refine brd_t (by first | assumption | omega) ?_; conv => whnf) | (refine brd_f (by first | assumption | omega) ?_; conv => whnf) | (refine ask (by first | assumption | omega) ?_; conv => whnf) | (refine fit64 (by omega) ?_; conv => whnf) | (refine fit (by simp only [kmin, kmax]; omega) ?_; conv => whnf) | (refine br_t (by assumption) ?_; conv => whnf) | (refine br_f (by assumption) ?_; conv => whnf) | (refine get_of (by assumption) ?_; conv => whnf) | (refine get_map (by assumption) ?_; conv => whnf) | (refine ⟨cells_pi path, ?_⟩; conv => whnf) | (refine ask (Nat.le_refl 1) ?_; conv => whnf) | (refine ask ⟨?_, ?_⟩ ?_; (first | decide | (simp; omega)); (first | decide | (simp; omega)); conv => whnf) | (refine ask ⟨?_, ?_, ?_⟩ ?_; (first | omega | (rw [pthV_kill]; omega) | (simp; done) | (simp; omega)); (first | omega | (simp; done) | (simp; omega)); (first | omega | (simp; done) | (simp; omega)); conv => whnf) | (refine brd (fun h => ?_) (fun h => ?_) <;> conv => whnf) | (refine br (fun h => ?_) (fun h => ?_) <;> conv => whnf) | (refine ret_now hE ?_; conv => whnf) | (intro hlen; conv => whnf))
      refine call_up (up_frzK 4 23 [0, 1, 2, 3, 8, 9, 10, 22, 28] (z := 1) (m := ((path : List Int).map (V.int .i64)).length + (List.take 1 (List.drop 0 [V.int .i64 (k : Int)])).length) (els := (path ++ [(k : Int)]).map (V.int .i64)) ?_ (ints_nr _) ?_ ?_ ?_ (up_drops [5, 6] (up_trimE (up_same [some (.row 1 [.sl 2 0 (cur ++ [path ++ [(k : Int)]]).length]), some (.row 1 [goV]), some (.row 1 (pthV (cur ++ [path ++ [(k : Int)]]))), some (.hid vs [ints path, .lst (nodesL l), .ptr 0 0 0, .ptr 1 0 0])] ?_ (up_here ?_)))))
      · exact congrArg (fun x => some (some (Ob.row 1 x))) hP
      · rfl
      · exact hPl
      · rfl
      · conv => whnf
        rw [hR, hCl]
        rfl
      conv => whnf
      refine call_id ih' hC (by kernel_rfl) rfl (by simp [rnL, rnV, ints, killL, V.kill]) ?_ [2] ?_ ?_ (by simp [rnL, rnV]) ?_ rfl ?_
      · intro j o ho
        match j, ho with
        | 0, ho => injection (show some _ = some o from ho) with ho; subst ho; exact ⟨rfl, _, rfl, by simp [rnL, rnV]⟩
        | 1, ho => injection (show some _ = some o from ho) with ho; subst ho; exact ⟨rfl, _, rfl, by simp [rnL, rnV, goV]⟩
        | 2, ho => injection (show some _ = some o from ho) with ho; subst ho; exact ⟨rfl, rnO_nr (pthV_nr _)⟩
        | m + 3, ho => simp at ho
      · intro j hj hn
        simp at hj hn ⊢
        omega
      · intro j hj
        simp at hj ⊢
        omega
      · intro j o ho
        match j, ho with
        | 0, ho => injection (show some _ = some o from ho) with ho; subst ho; exact ⟨_, rfl, by simp [rnL, rnV]⟩
        | 1, ho => injection (show some _ = some o from ho) with ho; subst ho; exact ⟨_, rfl, by simp [rnL, rnV, goV]⟩
        | 2, ho => injection (show some _ = some o from ho) with ho; subst ho; exact rnO_nr (pthV_nr _)
        | m + 3, ho => simp at ho
      conv => whnf
      repeat' (first | (refine brd_t (by first | assumption | omega) ?_; conv => whnf) | (refine brd_f (by first | assumption | omega) ?_; conv => whnf) | (refine ask (by first | assumption | omega) ?_; conv => whnf) | (refine fit64 (by omega) ?_; conv => whnf) | (refine fit (by simp only [kmin, kmax]; omega) ?_; conv => whnf) | (refine br_t (by assumption) ?_; conv => whnf) | (refine br_f (by assumption) ?_; conv => whnf) | (refine get_of (by assumption) ?_; conv => whnf) | (refine get_map (by assumption) ?_; conv => whnf) | (refine brd (fun h => ?_) (fun h => ?_) <;> conv => whnf) | (refine br (fun h => ?_) (fun h => ?_) <;> conv => whnf) | (refine ret_now hE ?_; conv => whnf) | (intro hlen; conv => whnf))
      refine next_drop [0, 1, 2, 3, 8, 9, 10] [] (k + 1, cur ++ [path ++ [(k : Int)]] ++ (pthL 0 qs).map (fun p => (path ++ [(k : Int)]) ++ p)) ⟨hlt, ?_, ?_⟩ (show l.length - (k + 1) < l.length - k by omega) ?_
      · show (cur ++ [path ++ [(k : Int)]] ++ (pthL 0 qs).map (fun p => (path ++ [(k : Int)]) ++ p)).length ≤ out.length + szL (l.take (k + 1))
        rw [List.length_append, hcl2, List.length_map]
        omega
      · show (cur ++ [path ++ [(k : Int)]] ++ (pthL 0 qs).map (fun p => (path ++ [(k : Int)]) ++ p)) ++ (pthL (k + 1) (l.drop (k + 1))).map (fun p => path ++ p) = out ++ (pthL 0 l).map (fun p => path ++ p)
        rw [← hI, hss]
        simp
      · conv => whnf
        rfl
    · rw [List.drop_eq_nil_of_le (by omega), pthL, List.map_nil, List.append_nil] at hI
      conv => whnf
      repeat' (first | (refine brd_t (by first | assumption | omega) ?_; conv => whnf) | (refine brd_f (by first | assumption | omega) ?_; conv => whnf) | (refine ask (by first | assumption | omega) ?_; conv => whnf) | (refine fit64 (by omega) ?_; conv => whnf) | (refine fit (by simp only [kmin, kmax]; omega) ?_; conv => whnf) | (refine br_t (by assumption) ?_; conv => whnf) | (refine br_f (by assumption) ?_; conv => whnf) | (refine get_of (by assumption) ?_; conv => whnf) | (refine get_map (by assumption) ?_; conv => whnf) | (refine brd (fun h => ?_) (fun h => ?_) <;> conv => whnf) | (refine br (fun h => ?_) (fun h => ?_) <;> conv => whnf) | (refine ret_now hE ?_; conv => whnf) | (intro hlen; conv => whnf))
      refine hret_now hE ?_
      conv => whnf
      exact ⟨rfl, rfl, rfl, by rw [hI]⟩
set_option maxHeartbeats 16000000 in
theorem h_go0 (l : List Nd) (out : List (List Int)) (hb1 : out.length + szL l ≤ 2097152) :
    HFn Try.prog 41 [.nils, .lst (nodesL l), .ptr 0 0 0, .ptr 1 0 0] [.row 1 [.sl 2 0 out.length], .row 1 [goV], .row 1 (pthV out)] [0, 1]
    (fun r o => r = .tup [] ∧ o = [.row 1 [.sl 2 0 (out ++ (pthL 0 l).map (fun p => [] ++ p)).length], .row 1 [goV], .row 1 (pthV (out ++ (pthL 0 l).map (fun p => [] ++ p)))]) := by
    have hlm := nodesL_length l
    have hll := szL_len l
    refine hfnE (T := Try.tt) Try.func41 rfl tt_all follows_all ?_ ?_ fun C vs hC hE => ?_
    · kernel_rfl
    · exact Nat.le_of_ble_eq_true (by kernel_rfl)
    conv => whnf
    repeat' (first | (refine brd_t (by first | assumption | omega) ?_; conv => whnf) | (refine brd_f (by first | assumption | omega) ?_; conv => whnf) | (refine ask (by first | assumption | omega) ?_; conv => whnf) | (refine fit64 (by omega) ?_; conv => whnf) | (refine fit (by simp only [kmin, kmax]; omega) ?_; conv => whnf) | (refine br_t (by assumption) ?_; conv => whnf) | (refine br_f (by assumption) ?_; conv => whnf) | (refine get_of (by assumption) ?_; conv => whnf) | (refine get_map (by assumption) ?_; conv => whnf) | (refine brd (fun h => ?_) (fun h => ?_) <;> conv => whnf) | (refine br (fun h => ?_) (fun h => ?_) <;> conv => whnf) | (refine ret_now hE ?_; conv => whnf) | (intro hlen; conv => whnf))
    refine loopE (fun ((k, cur) : Nat × List (List Int)) => ⟨31, [(0, .nils), (1, .lst (nodesL l)), (2, .ptr 0 0 0), (3, .ptr 1 0 0), (8, .lst (nodesL l)), (9, .int .i64 (nodesL l).length), (10, .int .i64 k)], [some (.row 1 [.sl 2 0 cur.length]), some (.row 1 [goV]), some (.row 1 (pthV cur)), some (.hid vs [.nils, .lst (nodesL l), .ptr 0 0 0, .ptr 1 0 0])]⟩)
      (fun (k, cur) => k ≤ l.length ∧ cur.length ≤ out.length + szL (l.take k) ∧ cur ++ (pthL k (l.drop k)).map (fun p => [] ++ p) = out ++ (pthL 0 l).map (fun p => [] ++ p)) (fun (k, _) => l.length - k) (0, out) hE ?_ ?_ ⟨Nat.zero_le _, Nat.le_add_right _ _, rfl⟩ ?_
    · kernel_rfl
    · exact at_keep [0, 1, 2, 3, 8, 9, 10] rfl
    rintro ⟨k, cur⟩ ⟨hk, hcl, hI⟩
    have hom := pthV_len cur
    have htl := sz_take_le l k
    have htk : List.take cur.length (List.drop 0 (pthV cur)) = pthV cur := by rw [List.drop_zero]; exact List.take_of_length_le (by omega)
    by_cases hlt : k < l.length
    · obtain ⟨n, a, t, qs, hx, hx'⟩ := node_at hlt
      have hst := pthL_step hx
      rw [hst] at hI
      have hp2 := szL_mem (List.mem_of_getElem? hx)
      have e1 : szN (.mk n a t qs) = (n.length + 1) + ((a.map szA).sum + 1) + (t.length + 1) + (szL qs + 1) + 1 := by simp only [szN, szS]
      have htl2 := sz_take_le l (k + 1)
      have hszk := sz_take hx
      have hqs := pthL_sz qs 0
      have hss : pthS (.mk n a t qs) = pthL 0 qs := by rw [pthS]
      have hpl : ([] ++ [(k : Int)]).length = ([] : List Int).length + 1 := by simp
      have hcl2 : (cur ++ [[] ++ [(k : Int)]]).length = cur.length + 1 := by simp
      have ih' := h_go (szL qs) qs [(k : Int)] (cur ++ [[(k : Int)]]) (Nat.le_refl _) (by simp; omega) (by simp; omega)
      have hP : killL 2 (killL 4 (List.take ([] : List V).length (List.drop 0 ([] : List V)) ++ List.take 1 (List.drop 0 [V.int .i64 (k : Int)]))) = ([] ++ [(k : Int)]).map (V.int .i64) := by
        rw [List.drop_zero, List.take_of_length_le (Nat.le_refl _), show ([] : List V) ++ List.take 1 (List.drop 0 [V.int .i64 (k : Int)]) = ([] ++ [(k : Int)]).map (V.int .i64) by first | rfl | (rw [List.map_append]; rfl), kill_nrL _ (ints_nr _), kill_nrL _ (ints_nr _)]
      have hPl : ([] : List V).length + (List.take 1 (List.drop 0 [V.int .i64 (k : Int)])).length = (([] ++ [(k : Int)]).map (V.int .i64)).length := by simp
      have hF : frzL 4 (([] ++ [(k : Int)]).map (V.int .i64)) [V.sl 4 0 (([] : List V).length + (List.take 1 (List.drop 0 [V.int .i64 (k : Int)])).length)] = [ints ([] ++ [(k : Int)])] := by
        rw [hPl, frzL_cons, frz_sl, if_pos rfl, if_pos (by omega), List.drop_zero, List.take_of_length_le (Nat.le_refl _), frzL_nil]
        rfl
      have hR : killL 6 (killL 5 (frzL 4 (([] ++ [(k : Int)]).map (V.int .i64)) (killL 2 (List.take cur.length (List.drop 0 (killL 4 (pthV cur))) ++ List.take 1 (List.drop 0 [V.sl 4 0 (([] : List V).length + (List.take 1 (List.drop 0 [V.int .i64 (k : Int)])).length)]))))) = pthV (cur ++ [[] ++ [(k : Int)]]) := by
        rw [pthV_kill, htk, killL_app, pthV_kill, frzL_app, pthV_frz, show killL 2 (List.take 1 (List.drop 0 [V.sl 4 0 (([] : List V).length + (List.take 1 (List.drop 0 [V.int .i64 (k : Int)])).length)])) = [V.sl 4 0 (([] : List V).length + (List.take 1 (List.drop 0 [V.int .i64 (k : Int)])).length)] from rfl, hF, show pthV cur ++ [ints ([] ++ [(k : Int)])] = pthV (cur ++ [[] ++ [(k : Int)]]) by rw [pthV_app]; rfl, pthV_kill, pthV_kill]
      have hCl : cur.length + (List.take 1 (List.drop 0 [V.sl 4 0 (([] : List V).length + (List.take 1 (List.drop 0 [V.int .i64 (k : Int)])).length)])).length = (cur ++ [[] ++ [(k : Int)]]).length := by simp
      conv => whnf
      repeat' (first | (refine brd_t (by first | assumption | omega) ?_; conv => whnf) | (refine brd_f (by first | assumption | omega) ?_; conv => whnf) | (refine ask (by first | assumption | omega) ?_; conv => whnf) | (refine fit64 (by omega) ?_; conv => whnf) | (refine fit (by simp only [kmin, kmax]; omega) ?_; conv => whnf) | (refine br_t (by assumption) ?_; conv => whnf) | (refine br_f (by assumption) ?_; conv => whnf) | (refine get_of (by assumption) ?_; conv => whnf) | (refine get_map (by assumption) ?_; conv => whnf) | (refine ask (Nat.le_refl 1) ?_; conv => whnf) | (refine ask ⟨?_, ?_⟩ ?_; (first | decide | (simp; omega)); (first | decide | (simp; omega)); conv => whnf) | (refine ask ⟨?_, ?_, ?_⟩ ?_; (first | omega | (rw [pthV_kill]; omega) | (simp; done) | (simp; omega)); (first | omega | (simp; done) | (simp; omega)); (first | omega | (simp; done) | (simp; omega)); conv => whnf) | (refine brd (fun h => ?_) (fun h => ?_) <;> conv => whnf) | (refine br (fun h => ?_) (fun h => ?_) <;> conv => whnf) | (refine ret_now hE ?_; conv => whnf) | (intro hlen; conv => whnf))
      refine ask ⟨?_, ?_, ?_⟩ ?_
      · (first | omega | (simp; done) | (simp; omega))
      · (first | omega | (simp; done) | (simp; omega))
      · (first | omega | (simp; done) | (simp; omega))
      conv => whnf
      repeat' (first | (refine brd_t (by first | assumption | omega) ?_; conv => whnf) | (refine brd_f (by first | assumption | omega) ?_; conv => whnf) | (refine ask (by first | assumption | omega) ?_; conv => whnf) | (refine fit64 (by omega) ?_; conv => whnf) | (refine fit (by simp only [kmin, kmax]; omega) ?_; conv => whnf) | (refine br_t (by assumption) ?_; conv => whnf) | (refine br_f (by assumption) ?_; conv => whnf) | (refine get_of (by assumption) ?_; conv => whnf) | (refine get_map (by assumption) ?_; conv => whnf) | (refine ask (Nat.le_refl 1) ?_; conv => whnf) | (refine ask ⟨?_, ?_⟩ ?_; (first | decide | (simp; omega)); (first | decide | (simp; omega)); conv => whnf) | (refine ask ⟨?_, ?_, ?_⟩ ?_; (first | omega | (rw [pthV_kill]; omega) | (simp; done) | (simp; omega)); (first | omega | (simp; done) | (simp; omega)); (first | omega | (simp; done) | (simp; omega)); conv => whnf) | (refine brd (fun h => ?_) (fun h => ?_) <;> conv => whnf) | (refine br (fun h => ?_) (fun h => ?_) <;> conv => whnf) | (refine ret_now hE ?_; conv => whnf) | (intro hlen; conv => whnf))
      refine call_up (up_frzK 4 23 [0, 1, 2, 3, 8, 9, 10, 22, 28] (z := 1) (m := ([] : List V).length + (List.take 1 (List.drop 0 [V.int .i64 (k : Int)])).length) (els := ([] ++ [(k : Int)]).map (V.int .i64)) ?_ (ints_nr _) ?_ ?_ ?_ (up_drops [5, 6] (up_trimE (up_same [some (.row 1 [.sl 2 0 (cur ++ [[] ++ [(k : Int)]]).length]), some (.row 1 [goV]), some (.row 1 (pthV (cur ++ [[] ++ [(k : Int)]]))), some (.hid vs [.nils, .lst (nodesL l), .ptr 0 0 0, .ptr 1 0 0])] ?_ (up_here ?_)))))
      · exact congrArg (fun x => some (some (Ob.row 1 x))) hP
      · rfl
      · exact hPl
      · rfl
      · conv => whnf
        rw [hR, hCl]
        rfl
      conv => whnf
      refine call_id ih' hC (by kernel_rfl) rfl (by simp [rnL, rnV, ints, killL, V.kill]) ?_ [2] ?_ ?_ (by simp [rnL, rnV]) ?_ rfl ?_
      · intro j o ho
        match j, ho with
        | 0, ho => injection (show some _ = some o from ho) with ho; subst ho; exact ⟨rfl, _, rfl, by simp [rnL, rnV]⟩
        | 1, ho => injection (show some _ = some o from ho) with ho; subst ho; exact ⟨rfl, _, rfl, by simp [rnL, rnV, goV]⟩
        | 2, ho => injection (show some _ = some o from ho) with ho; subst ho; exact ⟨rfl, rnO_nr (pthV_nr _)⟩
        | m + 3, ho => simp at ho
      · intro j hj hn
        simp at hj hn ⊢
        omega
      · intro j hj
        simp at hj ⊢
        omega
      · intro j o ho
        match j, ho with
        | 0, ho => injection (show some _ = some o from ho) with ho; subst ho; exact ⟨_, rfl, by simp [rnL, rnV]⟩
        | 1, ho => injection (show some _ = some o from ho) with ho; subst ho; exact ⟨_, rfl, by simp [rnL, rnV, goV]⟩
        | 2, ho => injection (show some _ = some o from ho) with ho; subst ho; exact rnO_nr (pthV_nr _)
        | m + 3, ho => simp at ho
      conv => whnf
      repeat' (first | (refine brd_t (by first | assumption | omega) ?_; conv => whnf) | (refine brd_f (by first | assumption | omega) ?_; conv => whnf) | (refine ask (by first | assumption | omega) ?_; conv => whnf) | (refine fit64 (by omega) ?_; conv => whnf) | (refine fit (by simp only [kmin, kmax]; omega) ?_; conv => whnf) | (refine br_t (by assumption) ?_; conv => whnf) | (refine br_f (by assumption) ?_; conv => whnf) | (refine get_of (by assumption) ?_; conv => whnf) | (refine get_map (by assumption) ?_; conv => whnf) | (refine brd (fun h => ?_) (fun h => ?_) <;> conv => whnf) | (refine br (fun h => ?_) (fun h => ?_) <;> conv => whnf) | (refine ret_now hE ?_; conv => whnf) | (intro hlen; conv => whnf))
      refine next_drop [0, 1, 2, 3, 8, 9, 10] [] (k + 1, cur ++ [[] ++ [(k : Int)]] ++ (pthL 0 qs).map (fun p => ([] ++ [(k : Int)]) ++ p)) ⟨hlt, ?_, ?_⟩ (show l.length - (k + 1) < l.length - k by omega) ?_
      · show (cur ++ [[] ++ [(k : Int)]] ++ (pthL 0 qs).map (fun p => ([] ++ [(k : Int)]) ++ p)).length ≤ out.length + szL (l.take (k + 1))
        rw [List.length_append, hcl2, List.length_map]
        omega
      · show (cur ++ [[] ++ [(k : Int)]] ++ (pthL 0 qs).map (fun p => ([] ++ [(k : Int)]) ++ p)) ++ (pthL (k + 1) (l.drop (k + 1))).map (fun p => [] ++ p) = out ++ (pthL 0 l).map (fun p => [] ++ p)
        rw [← hI, hss]
        simp
      · conv => whnf
        rfl
    · rw [List.drop_eq_nil_of_le (by omega), pthL, List.map_nil, List.append_nil] at hI
      conv => whnf
      repeat' (first | (refine brd_t (by first | assumption | omega) ?_; conv => whnf) | (refine brd_f (by first | assumption | omega) ?_; conv => whnf) | (refine ask (by first | assumption | omega) ?_; conv => whnf) | (refine fit64 (by omega) ?_; conv => whnf) | (refine fit (by simp only [kmin, kmax]; omega) ?_; conv => whnf) | (refine br_t (by assumption) ?_; conv => whnf) | (refine br_f (by assumption) ?_; conv => whnf) | (refine get_of (by assumption) ?_; conv => whnf) | (refine get_map (by assumption) ?_; conv => whnf) | (refine brd (fun h => ?_) (fun h => ?_) <;> conv => whnf) | (refine br (fun h => ?_) (fun h => ?_) <;> conv => whnf) | (refine ret_now hE ?_; conv => whnf) | (intro hlen; conv => whnf))
      refine hret_now hE ?_
      conv => whnf
      exact ⟨rfl, rfl, rfl, by rw [hI]⟩
set_option maxHeartbeats 8000000 in
theorem doc_paths (l : List Nd) (hN : szL l ≤ 1048576) : Fn1 Try.prog 21 [.lst (nodesL l)] (fun r => r = .lst (pthV (pthL 0 l))) := by
  have hg := h_go0 l [] (by simp; omega)
  have hgo : goV = .fn 41 [.ptr 0 0 0, .ptr 1 0 0] := rfl
  have hpl := pthV_len (pthL 0 l)
  have hm : (pthL 0 l).map (fun p => [] ++ p) = pthL 0 l := by simp
  rw [hm, List.nil_append] at hg
  refine fn1E (T := Try.tt) Try.func21 rfl tt_all follows_all ?_ ?_ fun C hC hE => ?_
  · kernel_rfl
  · exact Nat.le_of_ble_eq_true (by kernel_rfl)
  conv => whnf
  repeat' (first | (refine brd_t (by first | assumption | omega) ?_; conv => whnf) | (refine brd_f (by first | assumption | omega) ?_; conv => whnf) | (refine ask (by first | assumption | omega) ?_; conv => whnf) | (refine fit64 (by omega) ?_; conv => whnf) | (refine fit (by simp only [kmin, kmax]; omega) ?_; conv => whnf) | (refine br_t (by assumption) ?_; conv => whnf) | (refine br_f (by assumption) ?_; conv => whnf) | (refine get_of (by assumption) ?_; conv => whnf) | (refine get_map (by assumption) ?_; conv => whnf) | (refine brd (fun h => ?_) (fun h => ?_) <;> conv => whnf) | (refine br (fun h => ?_) (fun h => ?_) <;> conv => whnf) | (refine ret_now hE ?_; conv => whnf) | (intro hlen; conv => whnf))
  refine call_up (up_ownf 0 1 (x' := .sl 2 0 0) rfl (ownC_at 2 [] []) rfl (up_here ?_))
  conv => whnf
  refine call_id hg hC (by kernel_rfl) rfl (by simp [rnL, rnV]) ?_ [2] ?_ ?_ (by simp [rnL, rnV]) ?_ rfl ?_
  · intro j o ho
    match j, ho with
    | 0, ho => injection (show some _ = some o from ho) with ho; subst ho; exact ⟨rfl, _, rfl, by simp [rnL, rnV]⟩
    | 1, ho => injection (show some _ = some o from ho) with ho; subst ho; exact ⟨rfl, _, rfl, by simp [rnL, rnV, goV]⟩
    | 2, ho => injection (show some _ = some o from ho) with ho; subst ho; exact ⟨rfl, rnO_nr (pthV_nr [])⟩
    | m + 3, ho => simp at ho
  · intro j hj hn
    simp at hj hn ⊢
    omega
  · intro j hj
    simp at hj ⊢
    omega
  · intro j o ho
    match j, ho with
    | 0, ho => injection (show some _ = some o from ho) with ho; subst ho; exact ⟨_, rfl, by simp [rnL, rnV]⟩
    | 1, ho => injection (show some _ = some o from ho) with ho; subst ho; exact ⟨_, rfl, by simp [rnL, rnV, goV]⟩
    | 2, ho => injection (show some _ = some o from ho) with ho; subst ho; exact rnO_nr (pthV_nr _)
    | m + 3, ho => simp at ho
  conv => whnf
  repeat' (first | (refine brd_t (by first | assumption | omega) ?_; conv => whnf) | (refine brd_f (by first | assumption | omega) ?_; conv => whnf) | (refine ask (by first | assumption | omega) ?_; conv => whnf) | (refine fit64 (by omega) ?_; conv => whnf) | (refine fit (by simp only [kmin, kmax]; omega) ?_; conv => whnf) | (refine br_t (by assumption) ?_; conv => whnf) | (refine br_f (by assumption) ?_; conv => whnf) | (refine get_of (by assumption) ?_; conv => whnf) | (refine get_map (by assumption) ?_; conv => whnf) | (refine ret_up (up_frzK 2 2 [] rfl (pthV_nr _) rfl (by omega) rfl (up_here ?_))) | (refine brd (fun h => ?_) (fun h => ?_) <;> conv => whnf) | (refine br (fun h => ?_) (fun h => ?_) <;> conv => whnf) | (refine ret_now hE ?_; conv => whnf) | (intro hlen; conv => whnf))
  exact ⟨rfl, rfl⟩
set_option maxHeartbeats 8000000 in
theorem walkPaths_law (l : List Nd) (hN : szL l ≤ 1048576) : Fn1 Try.prog 6 [.lst (nodesL l)] (fun r => r = .bool true) := by
  have h1 := paths_go (szL l) l (Nat.le_refl _) hN
  have h2 := doc_paths l hN
  have hpl := pthV_len (pthL 0 l)
  refine fn1E (T := Try.tt) Try.func6 rfl tt_all follows_all ?_ ?_ fun C hC hE => ?_
  · kernel_rfl
  · exact Nat.le_of_ble_eq_true (by kernel_rfl)
  conv => whnf
  repeat' (first | (refine brd_t (by first | assumption | omega) ?_; conv => whnf) | (refine brd_f (by first | assumption | omega) ?_; conv => whnf) | (refine ask (by first | assumption | omega) ?_; conv => whnf) | (refine fit64 (by omega) ?_; conv => whnf) | (refine fit (by simp only [kmin, kmax]; omega) ?_; conv => whnf) | (refine br_t (by assumption) ?_; conv => whnf) | (refine br_f (by assumption) ?_; conv => whnf) | (refine get_of (by assumption) ?_; conv => whnf) | (refine get_map (by assumption) ?_; conv => whnf) | (refine brd_t rfl ?_; conv => whnf) | (refine call_eq (h1) hC hasBody_20 ?_ ?_ ?_; kernel_rfl; kernel_rfl; conv => whnf) | (refine callq_eq (h1) hC hasBody_20 ?_ ?_ ?_; kernel_rfl; kernel_rfl; conv => whnf) | (refine call_eq (h2) hC hasBody_21 ?_ ?_ ?_; kernel_rfl; kernel_rfl; conv => whnf) | (refine callq_eq (h2) hC hasBody_21 ?_ ?_ ?_; kernel_rfl; kernel_rfl; conv => whnf) | (refine brd (fun h => ?_) (fun h => ?_) <;> conv => whnf) | (refine br (fun h => ?_) (fun h => ?_) <;> conv => whnf) | (refine ret_now hE ?_; conv => whnf) | (intro hlen; conv => whnf))
  refine loopE (fun k : Nat => ⟨31, [(3, .lst (pthV (pthL 0 l))), (4, .lst (pthV (pthL 0 l))), (5, .int .i64 k)], []⟩) (fun k => k ≤ (pthL 0 l).length) (fun k => (pthL 0 l).length - k) 0 hE ?_ ?_ (Nat.zero_le _) ?_
  · kernel_rfl
  · exact at_keep [3, 4, 5] rfl
  intro k hk
  by_cases hlt : k < (pthL 0 l).length
  · obtain ⟨p, hp⟩ : ∃ p, (pthL 0 l)[k]? = some p := ⟨_, List.getElem?_eq_getElem hlt⟩
    have hpv : (pthV (pthL 0 l))[k]? = some (ints p) := by unfold pthV; rw [List.getElem?_map, hp]; rfl
    have hs := same_ints p
    have hpz := (pthL_sz l 0).1
    conv => whnf
    repeat' (first | (refine brd_t (by first | assumption | omega) ?_; conv => whnf) | (refine brd_f (by first | assumption | omega) ?_; conv => whnf) | (refine ask (by first | assumption | omega) ?_; conv => whnf) | (refine fit64 (by omega) ?_; conv => whnf) | (refine fit (by simp only [kmin, kmax]; omega) ?_; conv => whnf) | (refine br_t (by assumption) ?_; conv => whnf) | (refine br_f (by assumption) ?_; conv => whnf) | (refine get_of (by assumption) ?_; conv => whnf) | (refine get_map (by assumption) ?_; conv => whnf) | (refine call_eq (hs) hC hasBody_15 ?_ ?_ ?_; kernel_rfl; kernel_rfl; conv => whnf) | (refine callq_eq (hs) hC hasBody_15 ?_ ?_ ?_; kernel_rfl; kernel_rfl; conv => whnf) | (refine brd (fun h => ?_) (fun h => ?_) <;> conv => whnf) | (refine br (fun h => ?_) (fun h => ?_) <;> conv => whnf) | (refine ret_now hE ?_; conv => whnf) | (intro hlen; conv => whnf))
    all_goals exact next_keep [3, 4, 5] (k + 1) (show k + 1 ≤ (pthL 0 l).length by omega) (show (pthL 0 l).length - (k + 1) < (pthL 0 l).length - k by omega) rfl
  · conv => whnf
    repeat' (first | (refine brd_t (by first | assumption | omega) ?_; conv => whnf) | (refine brd_f (by first | assumption | omega) ?_; conv => whnf) | (refine ask (by first | assumption | omega) ?_; conv => whnf) | (refine fit64 (by omega) ?_; conv => whnf) | (refine fit (by simp only [kmin, kmax]; omega) ?_; conv => whnf) | (refine br_t (by assumption) ?_; conv => whnf) | (refine br_f (by assumption) ?_; conv => whnf) | (refine get_of (by assumption) ?_; conv => whnf) | (refine get_map (by assumption) ?_; conv => whnf) | (refine brd (fun h => ?_) (fun h => ?_) <;> conv => whnf) | (refine br (fun h => ?_) (fun h => ?_) <;> conv => whnf) | (refine ret_now hE ?_; conv => whnf) | (intro hlen; conv => whnf))
    exact ⟨rfl, rfl⟩
end Go.Proofs.Yteabokphchpifaa
