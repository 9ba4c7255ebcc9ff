/- pick.Find and the document's PickFind; the law PickFinds. No conditions. -/
import Derived.Test.YtaapdbcbefnhgaaFindD
import Derived.Test.YtaapdbcbefnhgaaOwnF
set_option linter.unusedSimpArgs false
set_option linter.unusedVariables false
set_option maxRecDepth 100000
namespace Go.Proofs.Ytaapdbcbefnhgaa
open Go.RowKit

/-- What is answered. -/
def findR (P : List Pk) (l : List Nd) : V := if pickF P = 0 then .tup [.lst (pthV (fndL P [] [] 0 l)), .int .i64 0] else .tup [.lst [], .int .i64 (pickF P)]
theorem pick_range {P : List Pk} (h : pickF P = 0) : 1 ≤ P.length ∧ P.length ≤ 10 := by
  unfold pickF at h
  split at h
  · cases h
  · split at h
    · cases h
    · omega
theorem rV_nil (P : List Pk) : rV P [] = List.replicate P.length (.bool false) := by
  unfold rV
  have : rightB P [] = fun _ => false := funext fun k => mB_nil P (k + 1)
  rw [this, bits_false]
  simp
theorem wV_nil (P : List Pk) : wV P [] = List.replicate P.length (.bool false) := by
  unfold wV
  have : withB P [] = fun _ => false := funext fun k => by simp [withB]
  rw [this, bits_false]
  simp
theorem nl_bools : ∀ L : List Bool, nlL (L.map V.bool) = L.map V.bool
  | [] => by simp [nlL]
  | x :: L => by simp [nlL, V.nl, nl_bools L]
theorem nl_pth : ∀ L : List (List Int), nlL (pthV L) = pthV L
  | [] => by simp [nlL, pthV]
  | x :: L => by
    have := nl_pth L
    have h2 : ∀ l : List Int, nlL (l.map (V.int .i64)) = l.map (V.int .i64) := fun l => by
      induction l with
      | nil => simp [nlL]
      | cons a l ih => simp [nlL, V.nl, ih]
    simp only [pthV, List.map_cons, nlL] at this ⊢
    rw [this]
    simp [ints, V.nl, h2]
set_option maxHeartbeats 16000000 in
theorem doc_find (P : List Pk) (l : List Nd) (hN : szL l ≤ 1048576) : Fn1 Try.prog 17 [.lst (P.map pickA), .lst (nodesL l)] (fun r => r = findR P l) := by
  have hf := pick_fault P
  refine fn1_nl ?_
  by_cases h0 : pickF P = 0
  · have hr : findR P l = .tup [.lst (pthV (fndL P [] [] 0 l)), .int .i64 0] := if_pos h0
    rw [h0] at hf
    have hg := h_look P (pick_range h0) (szL l) l [] [] [] (Nat.le_refl _) (by simp; omega) (by simp; omega) (by simp; omega)
    have hg2 : HFn Try.prog 43 [.lst (nodesL l), .nils, .nils, .ptr 0 0 0, .ptr 1 0 0, .ptr 2 0 0] (obL P []) [0, 1, 2] (fun r o => r = .tup [] ∧ o = obL P ([] ++ fndL P [] [] 0 l)) := hfn_anl (by
      simp only [nlL, V.nl, nl_nodes]
      exact hg)
    rw [List.nil_append] at hg2
    have hpl := pthV_len (fndL P [] [] 0 l)
    refine fn1E (T := Try.tt) Try.func17 rfl tt_all follows_all ?_ ?_ fun C hC hE => ?_
    · kernel_rfl
    · exact Nat.le_of_ble_eq_true (by kernel_rfl)
    conv => whnf
    repeat' (first | (refine brd_t (by first | assumption | omega) ?_; conv => whnf) | (refine brd_f (by first | assumption | omega) ?_; conv => whnf) | (refine ask (by first | assumption | omega) ?_; conv => whnf) | (refine fit64 (by omega) ?_; conv => whnf) | (refine fit (by simp only [kmin, kmax]; omega) ?_; conv => whnf) | (refine br_t (by assumption) ?_; conv => whnf) | (refine br_f (by assumption) ?_; conv => whnf) | (refine get_of (by assumption) ?_; conv => whnf) | (refine get_map (by assumption) ?_; conv => whnf) | (refine brd_f (fun h => absurd rfl h) ?_; conv => whnf) | (refine call_eq (hf) hC hasBody_42 ?_ ?_ ?_; kernel_rfl; kernel_rfl; conv => whnf) | (refine callq_eq (hf) hC hasBody_42 ?_ ?_ ?_; kernel_rfl; kernel_rfl; conv => whnf) | (refine draw_lex hE ?_ ?_; decide +kernel; conv => whnf) | (refine brd (fun h => ?_) (fun h => ?_) <;> conv => whnf) | (refine br (fun h => ?_) (fun h => ?_) <;> conv => whnf) | (refine ret_now hE ?_; conv => whnf) | (intro hlen; conv => whnf) | (refine seg_here ?_; conv => whnf))
    refine call_up (up_ownf 1 1 (x' := .sl 3 0 0) rfl (ownC_at 3 [] []) rfl (up_here ?_))
    conv => whnf
    refine call_id hg2 hC (by kernel_rfl) rfl (by simp [rnL, rnV, obL]) ?_ [3] ?_ ?_ (by simp [rnL, rnV]) ?_ rfl ?_
    · intro j o ho
      match j, ho with
      | 0, ho => injection (show some _ = some o from ho) with ho; subst ho; exact ⟨rfl, _, rfl, by simp [rnL, rnV, obL]⟩
      | 1, ho => injection (show some _ = some o from ho) with ho; subst ho; exact ⟨rfl, _, rfl, by simp [rnL, rnV, obL]⟩
      | 2, ho => injection (show some _ = some o from ho) with ho; subst ho; exact ⟨rfl, _, rfl, by simp [rnL, rnV, lookV, obL]⟩
      | 3, ho => injection (show some _ = some o from ho) with ho; subst ho; exact ⟨rfl, rnO_nr (pthV_nr _)⟩
      | m + 4, ho => simp [obL] at ho
    · intro j hj hn
      simp [obL] at hj hn ⊢
      omega
    · intro j hj
      simp [obL] at hj ⊢
      omega
    · intro j o ho
      match j, ho with
      | 0, ho => injection (show some _ = some o from ho) with ho; subst ho; exact ⟨_, rfl, by simp [rnL, rnV, obL]⟩
      | 1, ho => injection (show some _ = some o from ho) with ho; subst ho; exact ⟨_, rfl, by simp [rnL, rnV, obL]⟩
      | 2, ho => injection (show some _ = some o from ho) with ho; subst ho; exact ⟨_, rfl, by simp [rnL, rnV, lookV, obL]⟩
      | 3, ho => injection (show some _ = some o from ho) with ho; subst ho; exact rnO_nr (pthV_nr _)
      | m + 4, ho => simp [obL] at ho
    conv => whnf
    repeat' (first | (refine brd_t (by first | assumption | omega) ?_; conv => whnf) | (refine brd_f (by first | assumption | omega) ?_; conv => whnf) | (refine ask (by first | assumption | omega) ?_; conv => whnf) | (refine fit64 (by omega) ?_; conv => whnf) | (refine fit (by simp only [kmin, kmax]; omega) ?_; conv => whnf) | (refine br_t (by assumption) ?_; conv => whnf) | (refine br_f (by assumption) ?_; conv => whnf) | (refine get_of (by assumption) ?_; conv => whnf) | (refine get_map (by assumption) ?_; conv => whnf) | (refine ret_up (up_frzK 3 4 [5] rfl (pthV_nr _) rfl (by omega) rfl (up_here ?_))) | (refine draw_lex hE ?_ ?_; decide +kernel; conv => whnf) | (refine brd (fun h => ?_) (fun h => ?_) <;> conv => whnf) | (refine br (fun h => ?_) (fun h => ?_) <;> conv => whnf) | (refine ret_now hE ?_; conv => whnf) | (intro hlen; conv => whnf) | (refine seg_here ?_; conv => whnf))
    refine ⟨rfl, ?_⟩
    rw [hr]
    simp only [V.nl, nlL, nl_pth]
  · have hr : findR P l = .tup [.lst [], .int .i64 (pickF P)] := if_neg h0
    rw [hr]
    generalize pickF P = c at h0 hf
    refine fn1E (T := Try.tt) Try.func17 rfl tt_all follows_all ?_ ?_ fun C hC hE => ?_
    · kernel_rfl
    · exact Nat.le_of_ble_eq_true (by kernel_rfl)
    conv => whnf
    repeat' (first | (refine brd_t (by first | assumption | omega) ?_; conv => whnf) | (refine brd_f (by first | assumption | omega) ?_; conv => whnf) | (refine ask (by first | assumption | omega) ?_; conv => whnf) | (refine fit64 (by omega) ?_; conv => whnf) | (refine fit (by simp only [kmin, kmax]; omega) ?_; conv => whnf) | (refine br_t (by assumption) ?_; conv => whnf) | (refine br_f (by assumption) ?_; conv => whnf) | (refine get_of (by assumption) ?_; conv => whnf) | (refine get_map (by assumption) ?_; conv => whnf) | (refine call_eq (hf) hC hasBody_42 ?_ ?_ ?_; kernel_rfl; kernel_rfl; conv => whnf) | (refine callq_eq (hf) hC hasBody_42 ?_ ?_ ?_; kernel_rfl; kernel_rfl; conv => whnf) | (refine draw_lex hE ?_ ?_; decide +kernel; conv => whnf) | (refine brd (fun h => ?_) (fun h => ?_) <;> conv => whnf) | (refine br (fun h => ?_) (fun h => ?_) <;> conv => whnf) | (refine ret_now hE ?_; conv => whnf) | (intro hlen; conv => whnf) | (refine seg_here ?_; conv => whnf))
    exact ⟨rfl, rfl⟩
set_option maxHeartbeats 16000000 in
theorem pick_Find (P : List Pk) (l : List Nd) (hN : szL l ≤ 1048576) : Fn1 Try.prog 16 [.lst (P.map pickA), .lst (nodesL l)] (fun r => r = findR P l) := by
  have hf := pick_check P
  have hPl : (P.map pickA).length = P.length := by simp
  refine fn1_nl ?_
  by_cases h0 : pickF P = 0
  · have hr : findR P l = .tup [.lst (pthV (fndL P [] [] 0 l)), .int .i64 0] := if_pos h0
    have hP := pick_range h0
    rw [h0] at hf
    have hg := h_find P hP (szL l) l [] [] [] (Nat.le_refl _) (by simp; omega) (by simp; omega)
    have hg2 : HFn Try.prog 41 [.ptr 0 0 0, .lst (nodesL l), .nils, .lst (rV P []), .lst (wV P [])] (obF P []) [0] (fun r o => r = .tup [] ∧ o = obF P ([] ++ fndL P [] [] 0 l)) := hfn_anl (by
      simp only [nlL, V.nl, nl_nodes, rV, wV, nl_bools]
      exact hg)
    rw [List.nil_append] at hg2
    have hpl := pthV_len (fndL P [] [] 0 l)
    have hrl : (rV P []).length = P.length := by unfold rV; rw [List.length_map, bits_len]
    have hwl : (wV P []).length = P.length := by unfold wV; rw [List.length_map, bits_len]
    have h13 : (((P.map pickA).length : Nat) : Int).toNat = P.length := by rw [hPl]; omega
    refine fn1E (T := Try.tt) Try.func16 rfl tt_all follows_all ?_ ?_ fun C hC hE => ?_
    · kernel_rfl
    · exact Nat.le_of_ble_eq_true (by kernel_rfl)
    conv => whnf
    repeat' (first | (refine brd_t (by first | assumption | omega) ?_; conv => whnf) | (refine brd_f (by first | assumption | omega) ?_; conv => whnf) | (refine ask (by first | assumption | omega) ?_; conv => whnf) | (refine fit64 (by omega) ?_; conv => whnf) | (refine fit (by simp only [kmin, kmax]; omega) ?_; conv => whnf) | (refine br_t (by assumption) ?_; conv => whnf) | (refine br_f (by assumption) ?_; conv => whnf) | (refine get_of (by assumption) ?_; conv => whnf) | (refine get_map (by assumption) ?_; conv => whnf) | (refine brd_f (fun h => absurd rfl h) ?_; conv => whnf) | (refine call_eq (hf) hC hasBody_40 ?_ ?_ ?_; kernel_rfl; kernel_rfl; conv => whnf) | (refine callq_eq (hf) hC hasBody_40 ?_ ?_ ?_; kernel_rfl; kernel_rfl; conv => whnf) | (refine draw_lex hE ?_ ?_; decide +kernel; conv => whnf) | (refine draw_any hE [⟨2, [(0, none), (1, none), (2, none), (3, none), (5, none), (6, none), (4, some 0), (7, some 1)], some 8⟩] ?_ ?_; decide +kernel; conv => whnf) | (refine brd (fun h => ?_) (fun h => ?_) <;> conv => whnf) | (refine br (fun h => ?_) (fun h => ?_) <;> conv => whnf) | (refine ret_now hE ?_; conv => whnf) | (intro hlen; conv => whnf) | (refine seg_here ?_; conv => whnf))
    refine call_up (up_frzK 1 20 [7, 16, 17, 23] (z := 1) (m := (((P.map pickA).length : Nat) : Int).toNat) (els := rV P []) ?_ (nr_bools _) ?_ (h13.trans hrl.symm) ?_ (up_frzK 2 23 [7, 16, 17, 20] (z := 1) (m := (((P.map pickA).length : Nat) : Int).toNat) (els := wV P []) ?_ (nr_bools _) ?_ (h13.trans hwl.symm) ?_
      (up_trimE (up_ownF 0 1 1 (z := 2) (l := [.lst (P.map pickA), .nils]) rfl rfl (up_here ?_)))))
    · exact congrArg (fun x => some (some (Ob.row 1 x))) (by rw [rV_nil, h13])
    · rfl
    · rfl
    · exact congrArg (fun x => some (some (Ob.row 1 x))) (by
        show frzL 1 _ (List.replicate (((P.map pickA).length : Nat) : Int).toNat (V.bool false)) = _
        rw [h13, ← wV_nil]
        exact frz_nrL _ _ (nr_bools _))
    · rfl
    · rfl
    conv => whnf
    refine call_id hg2 hC (by kernel_rfl) rfl (by simp [rnL, rnV, obF, rV, wV]) ?_ [1] ?_ ?_ (by simp [rnL, rnV]) ?_ rfl ?_
    · intro j o ho
      match j, ho with
      | 0, ho => injection (show some _ = some o from ho) with ho; subst ho; exact ⟨rfl, _, rfl, by simp [rnL, rnV, obF]⟩
      | 1, ho => injection (show some _ = some o from ho) with ho; subst ho; exact ⟨rfl, rnO_nr (pthV_nr _)⟩
      | m + 2, ho => simp [obF] at ho
    · intro j hj hn
      simp [obF] at hj hn ⊢
      omega
    · intro j hj
      simp [obF] at hj ⊢
      omega
    · intro j o ho
      match j, ho with
      | 0, ho => injection (show some _ = some o from ho) with ho; subst ho; exact ⟨_, rfl, by simp [rnL, rnV, obF]⟩
      | 1, ho => injection (show some _ = some o from ho) with ho; subst ho; exact rnO_nr (pthV_nr _)
      | m + 2, ho => simp [obF] at ho
    conv => whnf
    repeat' (first | (refine brd_t (by first | assumption | omega) ?_; conv => whnf) | (refine brd_f (by first | assumption | omega) ?_; conv => whnf) | (refine ask (by first | assumption | omega) ?_; conv => whnf) | (refine fit64 (by omega) ?_; conv => whnf) | (refine fit (by simp only [kmin, kmax]; omega) ?_; conv => whnf) | (refine br_t (by assumption) ?_; conv => whnf) | (refine br_f (by assumption) ?_; conv => whnf) | (refine get_of (by assumption) ?_; conv => whnf) | (refine get_map (by assumption) ?_; conv => whnf) | (refine ret_up (up_frzK 1 4 [5] rfl (pthV_nr _) rfl (by omega) rfl (up_here ?_))) | (refine draw_lex hE ?_ ?_; decide +kernel; conv => whnf) | (refine draw_any hE [⟨2, [(0, none), (1, none), (2, none), (3, none), (5, none), (6, none), (4, some 0), (7, some 1)], some 8⟩] ?_ ?_; decide +kernel; conv => whnf) | (refine brd (fun h => ?_) (fun h => ?_) <;> conv => whnf) | (refine br (fun h => ?_) (fun h => ?_) <;> conv => whnf) | (refine ret_now hE ?_; conv => whnf) | (intro hlen; conv => whnf) | (refine seg_here ?_; conv => whnf))
    refine ⟨rfl, ?_⟩
    rw [hr]
    simp only [V.nl, nlL, nl_pth]
  · have hr : findR P l = .tup [.lst [], .int .i64 (pickF P)] := if_neg h0
    rw [hr]
    generalize pickF P = c at h0 hf
    refine fn1E (T := Try.tt) Try.func16 rfl tt_all follows_all ?_ ?_ fun C hC hE => ?_
    · kernel_rfl
    · exact Nat.le_of_ble_eq_true (by kernel_rfl)
    conv => whnf
    repeat' (first | (refine brd_t (by first | assumption | omega) ?_; conv => whnf) | (refine brd_f (by first | assumption | omega) ?_; conv => whnf) | (refine ask (by first | assumption | omega) ?_; conv => whnf) | (refine fit64 (by omega) ?_; conv => whnf) | (refine fit (by simp only [kmin, kmax]; omega) ?_; conv => whnf) | (refine br_t (by assumption) ?_; conv => whnf) | (refine br_f (by assumption) ?_; conv => whnf) | (refine get_of (by assumption) ?_; conv => whnf) | (refine get_map (by assumption) ?_; conv => whnf) | (refine call_eq (hf) hC hasBody_40 ?_ ?_ ?_; kernel_rfl; kernel_rfl; conv => whnf) | (refine callq_eq (hf) hC hasBody_40 ?_ ?_ ?_; kernel_rfl; kernel_rfl; conv => whnf) | (refine draw_lex hE ?_ ?_; decide +kernel; conv => whnf) | (refine draw_any hE [⟨2, [(0, none), (1, none), (2, none), (3, none), (5, none), (6, none), (4, some 0), (7, some 1)], some 8⟩] ?_ ?_; decide +kernel; conv => whnf) | (refine brd (fun h => ?_) (fun h => ?_) <;> conv => whnf) | (refine br (fun h => ?_) (fun h => ?_) <;> conv => whnf) | (refine ret_now hE ?_; conv => whnf) | (intro hlen; conv => whnf) | (refine seg_here ?_; conv => whnf))
    exact ⟨rfl, rfl⟩
theorem same_ints (l : List Int) : Fn1 Try.prog 13 [ints l, ints l] (fun r => r = .bool true) := by
  have hlm : (l.map (V.int .i64)).length = l.length := by simp
  refine fn1E (T := Try.tt) Try.func13 rfl tt_all follows_all ?_ ?_ fun C hC hE => ?_
  · kernel_rfl
  · exact Nat.le_of_ble_eq_true (by kernel_rfl)
  conv => whnf
  repeat' (first | (refine brd_t (by first | assumption | omega) ?_; conv => whnf) | (refine brd_f (by first | assumption | omega) ?_; conv => whnf) | (refine ask (by first | assumption | omega) ?_; conv => whnf) | (refine fit64 (by omega) ?_; conv => whnf) | (refine fit (by simp only [kmin, kmax]; omega) ?_; conv => whnf) | (refine br_t (by assumption) ?_; conv => whnf) | (refine br_f (by assumption) ?_; conv => whnf) | (refine get_of (by assumption) ?_; conv => whnf) | (refine get_map (by assumption) ?_; conv => whnf) | (refine draw_lex hE ?_ ?_; decide +kernel; conv => whnf) | (refine draw_any hE [⟨0, [(0, none), (1, none), (2, none), (3, none), (4, none), (5, none), (6, none), (7, none), (8, none)], none⟩] ?_ ?_; decide +kernel; conv => whnf) | (refine brd (fun h => ?_) (fun h => ?_) <;> conv => whnf) | (refine br (fun h => ?_) (fun h => ?_) <;> conv => whnf) | (refine ret_now hE ?_; conv => whnf) | (intro hlen; conv => whnf) | (refine seg_here ?_; conv => whnf))
  refine loopE (fun k : Nat => ⟨26, [(0, ints l), (1, ints l), (5, .int .i64 k)], []⟩) (fun k => k ≤ l.length) (fun k => l.length - k) 0 hE ?_ ?_ (Nat.zero_le _) ?_
  · kernel_rfl
  · exact at_keep [0, 1, 5] rfl
  intro k hk
  by_cases hlt : k < l.length
  · obtain ⟨x, hx⟩ : ∃ x, l[k]? = some x := ⟨_, List.getElem?_eq_getElem hlt⟩
    conv => whnf
    repeat' (first | (refine brd_t (by first | assumption | omega) ?_; conv => whnf) | (refine brd_f (by first | assumption | omega) ?_; conv => whnf) | (refine ask (by first | assumption | omega) ?_; conv => whnf) | (refine fit64 (by omega) ?_; conv => whnf) | (refine fit (by simp only [kmin, kmax]; omega) ?_; conv => whnf) | (refine br_t (by assumption) ?_; conv => whnf) | (refine br_f (by assumption) ?_; conv => whnf) | (refine get_of (by assumption) ?_; conv => whnf) | (refine get_map (by assumption) ?_; conv => whnf) | (refine brd_t rfl ?_; conv => whnf) | (refine draw_lex hE ?_ ?_; decide +kernel; conv => whnf) | (refine draw_any hE [⟨0, [(0, none), (1, none), (2, none), (3, none), (4, none), (5, none), (6, none), (7, none), (8, none)], none⟩] ?_ ?_; decide +kernel; conv => whnf) | (refine brd (fun h => ?_) (fun h => ?_) <;> conv => whnf) | (refine br (fun h => ?_) (fun h => ?_) <;> conv => whnf) | (refine ret_now hE ?_; conv => whnf) | (intro hlen; conv => whnf) | (refine seg_here ?_; conv => whnf))
    all_goals first | exact next_keep [0, 1, 5] (k + 1) (show k + 1 ≤ l.length by omega) (show l.length - (k + 1) < l.length - k by omega) rfl | (exfalso; simp_all; done)
  · conv => whnf
    repeat' (first | (refine brd_t (by first | assumption | omega) ?_; conv => whnf) | (refine brd_f (by first | assumption | omega) ?_; conv => whnf) | (refine ask (by first | assumption | omega) ?_; conv => whnf) | (refine fit64 (by omega) ?_; conv => whnf) | (refine fit (by simp only [kmin, kmax]; omega) ?_; conv => whnf) | (refine br_t (by assumption) ?_; conv => whnf) | (refine br_f (by assumption) ?_; conv => whnf) | (refine get_of (by assumption) ?_; conv => whnf) | (refine get_map (by assumption) ?_; conv => whnf) | (refine draw_lex hE ?_ ?_; decide +kernel; conv => whnf) | (refine draw_any hE [⟨0, [(0, none), (1, none), (2, none), (3, none), (4, none), (5, none), (6, none), (7, none), (8, none)], none⟩] ?_ ?_; decide +kernel; conv => whnf) | (refine brd (fun h => ?_) (fun h => ?_) <;> conv => whnf) | (refine br (fun h => ?_) (fun h => ?_) <;> conv => whnf) | (refine ret_now hE ?_; conv => whnf) | (intro hlen; conv => whnf) | (refine seg_here ?_; conv => whnf))
    exact ⟨rfl, rfl⟩
theorem findR_is (P : List Pk) (l : List Nd) (hN : szL l ≤ 1048576) : ∃ (o : List (List Int)) (c : Int), findR P l = .tup [.lst (pthV o), .int .i64 c] ∧ o.length ≤ 1048576 := by
  unfold findR
  split
  · exact ⟨_, 0, rfl, by have := fndL_sz P l [] [] 0; omega⟩
  · exact ⟨[], _, rfl, by simp⟩
set_option maxHeartbeats 8000000 in
theorem pickFinds_law (P : List Pk) (l : List Nd) (hN : szL l ≤ 1048576) : Fn1 Try.prog 5 [.lst (P.map pickA), .lst (nodesL l)] (fun r => r = .bool true) := by
  have h1 := pick_Find P l hN
  have h2 := doc_find P l hN
  obtain ⟨o, c, e, ho⟩ := findR_is P l hN
  rw [e] at h1 h2
  have hpl := pthV_len o
  refine fn1E (T := Try.tt) Try.func5 rfl tt_all follows_all ?_ ?_ fun C hC hE => ?_
  · kernel_rfl
  · exact Nat.le_of_ble_eq_true (by kernel_rfl)
  conv => whnf
  repeat' (first | (refine brd_t (by first | assumption | omega) ?_; conv => whnf) | (refine brd_f (by first | assumption | omega) ?_; conv => whnf) | (refine ask (by first | assumption | omega) ?_; conv => whnf) | (refine fit64 (by omega) ?_; conv => whnf) | (refine fit (by simp only [kmin, kmax]; omega) ?_; conv => whnf) | (refine br_t (by assumption) ?_; conv => whnf) | (refine br_f (by assumption) ?_; conv => whnf) | (refine get_of (by assumption) ?_; conv => whnf) | (refine get_map (by assumption) ?_; conv => whnf) | (refine brd_t rfl ?_; conv => whnf) | (refine call_eq (h1) hC hasBody_16 ?_ ?_ ?_; kernel_rfl; kernel_rfl; conv => whnf) | (refine callq_eq (h1) hC hasBody_16 ?_ ?_ ?_; kernel_rfl; kernel_rfl; conv => whnf) | (refine call_eq (h2) hC hasBody_17 ?_ ?_ ?_; kernel_rfl; kernel_rfl; conv => whnf) | (refine callq_eq (h2) hC hasBody_17 ?_ ?_ ?_; kernel_rfl; kernel_rfl; conv => whnf) | (refine draw_lex hE ?_ ?_; decide +kernel; conv => whnf) | (refine draw_any hE [⟨0, [(0, none), (1, none), (2, none), (3, none), (4, none), (5, none), (6, none), (7, none), (8, none), (9, none)], none⟩] ?_ ?_; decide +kernel; conv => whnf) | (refine brd (fun h => ?_) (fun h => ?_) <;> conv => whnf) | (refine br (fun h => ?_) (fun h => ?_) <;> conv => whnf) | (refine ret_now hE ?_; conv => whnf) | (intro hlen; conv => whnf) | (refine seg_here ?_; conv => whnf))
  refine loopE (fun k : Nat => ⟨48, [(5, .lst (pthV o)), (7, .lst (pthV o)), (9, .int .i64 k)], []⟩) (fun k => k ≤ o.length) (fun k => o.length - k) 0 hE ?_ ?_ (Nat.zero_le _) ?_
  · kernel_rfl
  · exact at_keep [5, 7, 9] rfl
  intro k hk
  by_cases hlt : k < o.length
  · obtain ⟨p, hp⟩ : ∃ p, o[k]? = some p := ⟨_, List.getElem?_eq_getElem hlt⟩
    have hpv : (pthV o)[k]? = some (ints p) := by unfold pthV; rw [List.getElem?_map, hp]; rfl
    have hs := same_ints p
    conv => whnf
    repeat' (first | (refine brd_t (by first | assumption | omega) ?_; conv => whnf) | (refine brd_f (by first | assumption | omega) ?_; conv => whnf) | (refine ask (by first | assumption | omega) ?_; conv => whnf) | (refine fit64 (by omega) ?_; conv => whnf) | (refine fit (by simp only [kmin, kmax]; omega) ?_; conv => whnf) | (refine br_t (by assumption) ?_; conv => whnf) | (refine br_f (by assumption) ?_; conv => whnf) | (refine get_of (by assumption) ?_; conv => whnf) | (refine get_map (by assumption) ?_; conv => whnf) | (refine call_eq (hs) hC hasBody_13 ?_ ?_ ?_; kernel_rfl; kernel_rfl; conv => whnf) | (refine callq_eq (hs) hC hasBody_13 ?_ ?_ ?_; kernel_rfl; kernel_rfl; conv => whnf) | (refine draw_lex hE ?_ ?_; decide +kernel; conv => whnf) | (refine draw_any hE [⟨0, [(0, none), (1, none), (2, none), (3, none), (4, none), (5, none), (6, none), (7, none), (8, none), (9, none)], none⟩] ?_ ?_; decide +kernel; conv => whnf) | (refine brd (fun h => ?_) (fun h => ?_) <;> conv => whnf) | (refine br (fun h => ?_) (fun h => ?_) <;> conv => whnf) | (refine ret_now hE ?_; conv => whnf) | (intro hlen; conv => whnf) | (refine seg_here ?_; conv => whnf))
    all_goals exact next_keep [5, 7, 9] (k + 1) (show k + 1 ≤ o.length by omega) (show o.length - (k + 1) < o.length - k by omega) rfl
  · conv => whnf
    repeat' (first | (refine brd_t (by first | assumption | omega) ?_; conv => whnf) | (refine brd_f (by first | assumption | omega) ?_; conv => whnf) | (refine ask (by first | assumption | omega) ?_; conv => whnf) | (refine fit64 (by omega) ?_; conv => whnf) | (refine fit (by simp only [kmin, kmax]; omega) ?_; conv => whnf) | (refine br_t (by assumption) ?_; conv => whnf) | (refine br_f (by assumption) ?_; conv => whnf) | (refine get_of (by assumption) ?_; conv => whnf) | (refine get_map (by assumption) ?_; conv => whnf) | (refine draw_lex hE ?_ ?_; decide +kernel; conv => whnf) | (refine draw_any hE [⟨0, [(0, none), (1, none), (2, none), (3, none), (4, none), (5, none), (6, none), (7, none), (8, none), (9, none)], none⟩] ?_ ?_; decide +kernel; conv => whnf) | (refine brd (fun h => ?_) (fun h => ?_) <;> conv => whnf) | (refine br (fun h => ?_) (fun h => ?_) <;> conv => whnf) | (refine ret_now hE ?_; conv => whnf) | (intro hlen; conv => whnf) | (refine seg_here ?_; conv => whnf))
    exact ⟨rfl, rfl⟩
end Go.Proofs.Ytaapdbcbefnhgaa
