/- marks.norm, walked. No conditions. -/
import Derived.Test.YtkkcmobnhiiacaaDoorMNormA
set_option linter.unusedSimpArgs false
set_option linter.unusedVariables false
set_option maxRecDepth 100000
namespace Go.Proofs.YtkkcmobnhiiacaaDoor
open Go.RowKit

theorem normV_bad {L : List (List UInt8)} {l : List Rn} {x : Rn} (hx : x ∈ l) (h : okR L x = false) : normV L l = .tup [.lst [], .int .i64 5] := by
  unfold normV
  rw [if_neg]
  intro ha
  rw [List.all_eq_true.1 ha x hx] at h
  cases h
theorem normV_ok {L : List (List UInt8)} {l : List Rn} (h : ∀ j < l.length, ∀ x, l[j]? = some x → okR L x = true) : normV L l = .tup [.lst ((normL L l).map rnA), .int .i64 0] := by
  unfold normV
  rw [if_pos]
  refine List.all_eq_true.2 fun x hx => ?_
  obtain ⟨j, hj⟩ := List.mem_iff_getElem?.1 hx
  exact h j (List.getElem?_eq_some_iff.1 hj).1 x hj
set_option maxHeartbeats 16000000 in
theorem marks_norm (L : List (List UInt8)) (l : List Rn) (hL4 : L.length ≤ 4) (hl60 : l.length ≤ 60) (hs : sumT l ≤ 1048576) : Fn1 Tryd.prog 51 [.lst (L.map V.str), .lst (l.map rnA)] (fun r => r = normV L l) := by
  have hlm : (l.map rnA).length = l.length := by simp
  have hLm : (L.map V.str).length = L.length := by simp
  refine fn1_nl ?_
  refine fn1E (T := Tryd.tt) Tryd.func51 rfl tt_all follows_all ?_ ?_ fun C hC hE => ?_
  · kernel_rfl
  · exact Nat.le_of_ble_eq_true (by kernel_rfl)
  conv => whnf
  repeat' (first | (refine brd_t (by first | assumption | omega) ?_; conv => whnf) | (refine brd_f (by first | assumption | omega) ?_; conv => whnf) | (refine ask (by first | assumption | omega) ?_; conv => whnf) | (refine fit64 (by omega) ?_; conv => whnf) | (refine fit (by simp only [kmin, kmax]; omega) ?_; conv => whnf) | (refine br_t (by assumption) ?_; conv => whnf) | (refine br_f (by assumption) ?_; conv => whnf) | (refine get_of (by assumption) ?_; conv => whnf) | (refine get_map (by assumption) ?_; conv => whnf) | (refine draw_lex hE ?_ ?_; decide +kernel; conv => whnf) | (refine draw_any hE [⟨0, [(0, none), (1, none), (2, none), (3, none), (4, none), (5, none), (6, none), (7, none), (8, none), (9, none), (10, none), (11, none), (12, none)], none, [], [[]]⟩] ?_ ?_; decide +kernel; conv => whnf) | (refine draw_any hE [⟨0, [(0, none), (1, none), (2, none), (3, none), (4, none), (5, none), (6, none), (7, none), (8, none), (9, none), (10, none)], some 11, [], [[]]⟩] ?_ ?_; decide +kernel; conv => whnf) | (refine brd (fun h => ?_) (fun h => ?_) <;> conv => whnf) | (refine br (fun h => ?_) (fun h => ?_) <;> conv => whnf) | (refine ret_now hE ?_; conv => whnf) | (intro hlen; conv => whnf) | (refine seg_here ?_; conv => whnf) | (refine both ?_ ?_ <;> conv => whnf))
  refine loopE (fun k : Nat => ⟨78, [(2, .rp [.lst (L.map V.str)]), (6, .sl 0 0 (outN L l k).length), (13, .lst (l.map rnA)), (14, .int .i64 (l.map rnA).length), (15, .int .i64 k)], [some (.row 2 ((outN L l k).map rnA))]⟩)
    (fun k => k ≤ l.length ∧ ∀ j < k, ∀ x, l[j]? = some x → okR L x = true) (fun k => l.length - k) 0 hE ?_ ?_ ⟨Nat.zero_le _, fun j hj => by omega⟩ ?_
  · kernel_rfl
  · exact up_freeze 0 (z := 1) (els := [.lst (L.map V.str)]) rfl (nrB_nrL _ rfl) (up_own 6 2 rfl rfl (at_keep [2, 6, 13, 14, 15] rfl))
  intro k hk
  obtain ⟨hk, hj⟩ := hk
  have hol := outN_len L l k
  have hom : ((outN L l k).map rnA).length = (outN L l k).length := by simp
  have hos := outN_sum L l k
  by_cases hlt : k < l.length
  · obtain ⟨x, hx⟩ : ∃ x, l[k]? = some x := ⟨_, List.getElem?_eq_getElem hlt⟩
    have hst := outN_step (L := L) hx
    have hcf := containsFunc_78 x.marks 79 [.rp [.lst (L.map V.str)]] (fun m => !decide (m ∈ L)) hasBody_79 rfl (fun q _ => norm1 L q)
    have hok : okR L x = !(x.marks.any fun m => !decide (m ∈ L)) := by unfold okR; rw [List.not_any_eq_all_not]; simp
    have hmem := List.mem_of_getElem? hx
    obtain ⟨b, hb⟩ : ∃ b, (x.marks.any fun m => !decide (m ∈ L)) = b := ⟨_, rfl⟩
    rw [hb] at hcf hok
    cases b
    · conv => whnf
      repeat' (first | (refine brd_t (by first | assumption | omega) ?_; conv => whnf) | (refine brd_f (by first | assumption | omega) ?_; conv => whnf) | (refine ask (by first | assumption | omega) ?_; conv => whnf) | (refine fit64 (by omega) ?_; conv => whnf) | (refine fit (by simp only [kmin, kmax]; omega) ?_; conv => whnf) | (refine br_t (by assumption) ?_; conv => whnf) | (refine br_f (by assumption) ?_; conv => whnf) | (refine get_of (by assumption) ?_; conv => whnf) | (refine get_map (by assumption) ?_; conv => whnf) | (refine call_eq (hcf) hC hasBody_78 ?_ ?_ ?_; kernel_rfl; kernel_rfl; conv => whnf) | (refine callq_eq (hcf) hC hasBody_78 ?_ ?_ ?_; kernel_rfl; kernel_rfl; conv => whnf) | (refine brd_t rfl ?_; conv => whnf) | (refine draw_lex hE ?_ ?_; decide +kernel; conv => whnf) | (refine draw_any hE [⟨0, [(0, none), (1, none), (2, none), (3, none), (4, none), (5, none), (6, none), (7, none), (8, none), (9, none), (10, none), (11, none), (12, none)], none, [], [[]]⟩] ?_ ?_; decide +kernel; conv => whnf) | (refine draw_any hE [⟨0, [(0, none), (1, none), (2, none), (3, none), (4, none), (5, none), (6, none), (7, none), (8, none), (9, none), (10, none)], some 11, [], [[]]⟩] ?_ ?_; decide +kernel; conv => whnf) | (refine brd (fun h => ?_) (fun h => ?_) <;> conv => whnf) | (refine br (fun h => ?_) (fun h => ?_) <;> conv => whnf) | (refine ret_now hE ?_; conv => whnf) | (intro hlen; conv => whnf) | (refine seg_here ?_; conv => whnf) | (refine both ?_ ?_ <;> conv => whnf))
      refine loopE (fun j : Nat => ⟨78, [(2, .rp [.lst (L.map V.str)]), (6, .sl 0 0 (outN L l k).length), (8, .ptr 1 0 0), (9, .ptr 2 0 0), (13, .lst (l.map rnA)), (14, .int .i64 (l.map rnA).length), (15, .int .i64 k), (26, .lst (L.map V.str)), (27, .int .i64 (L.map V.str).length), (28, .int .i64 j)],
          [some (.row 2 ((outN L l k).map rnA)), some (.row 2 [.agg [.str x.text, .lst (x.marks.map V.str)]]), some (.row 2 [.agg [.str x.text, .sl 3 0 (keepM (L.take j) x.marks).length]]), some (.row 1 ((keepM (L.take j) x.marks).map V.str))]⟩)
        (fun j => j ≤ L.length) (fun j => L.length - j) 0 hE ?_ ?_ (Nat.zero_le _) ?_
      · kernel_rfl
      · exact up_ownF 2 1 1 (z := 2) (l := [.str x.text, .nils]) rfl rfl (at_keep [2, 6, 8, 9, 13, 14, 15, 26, 27, 28] rfl)
      intro j hjL
      have hkl := keepM_len (L.take j) x.marks
      have hkm : ((keepM (L.take j) x.marks).map V.str).length = (keepM (L.take j) x.marks).length := by simp
      have hlt2 : (L.take j).length ≤ j := by simp; omega
      by_cases hjlt : j < L.length
      · obtain ⟨m, hm⟩ : ∃ m, L[j]? = some m := ⟨_, List.getElem?_eq_getElem hjlt⟩
        have hks := keepM_step (ms := x.marks) hm
        have hcs := contains_str x.marks m
        obtain ⟨b2, hb2⟩ : ∃ b, decide (m ∈ x.marks) = b := ⟨_, rfl⟩
        rw [hb2] at hcs
        cases b2
        · rw [if_neg (of_decide_eq_false hb2), List.append_nil] at hks
          conv => whnf
          repeat' (first | (refine brd_t (by first | assumption | omega) ?_; conv => whnf) | (refine brd_f (by first | assumption | omega) ?_; conv => whnf) | (refine ask (by first | assumption | omega) ?_; conv => whnf) | (refine fit64 (by omega) ?_; conv => whnf) | (refine fit (by simp only [kmin, kmax]; omega) ?_; conv => whnf) | (refine br_t (by assumption) ?_; conv => whnf) | (refine br_f (by assumption) ?_; conv => whnf) | (refine get_of (by assumption) ?_; conv => whnf) | (refine get_map (by assumption) ?_; conv => whnf) | (refine call_eq (hcs) hC hasBody_64 ?_ ?_ ?_; kernel_rfl; kernel_rfl; conv => whnf) | (refine callq_eq (hcs) hC hasBody_64 ?_ ?_ ?_; kernel_rfl; kernel_rfl; conv => whnf) | (refine brd_t rfl ?_; conv => whnf) | (refine draw_lex hE ?_ ?_; decide +kernel; conv => whnf) | (refine draw_any hE [⟨0, [(0, none), (1, none), (2, none), (3, none), (4, none), (5, none), (6, none), (7, none), (8, none), (9, none), (10, none), (11, none), (12, none)], none, [], [[]]⟩] ?_ ?_; decide +kernel; conv => whnf) | (refine draw_any hE [⟨0, [(0, none), (1, none), (2, none), (3, none), (4, none), (5, none), (6, none), (7, none), (8, none), (9, none), (10, none)], some 11, [], [[]]⟩] ?_ ?_; decide +kernel; conv => whnf) | (refine brd (fun h => ?_) (fun h => ?_) <;> conv => whnf) | (refine br (fun h => ?_) (fun h => ?_) <;> conv => whnf) | (refine ret_now hE ?_; conv => whnf) | (intro hlen; conv => whnf) | (refine seg_here ?_; conv => whnf) | (refine both ?_ ?_ <;> conv => whnf))
          refine next_keep [2, 6, 8, 9, 13, 14, 15, 26, 27, 28] (j + 1) hjlt (show L.length - (j + 1) < L.length - j by omega) ?_
          simp only [hks]
          rfl
        · rw [if_pos (of_decide_eq_true hb2)] at hks
          have ha1 : killL 4 (killL 3 ((outN L l k).map rnA)) = (outN L l k).map rnA := by rw [kill_nrL 3 (nr_rn _), kill_nrL 4 (nr_rn _)]
          have ha4 : killL 4 (killL 3 (List.take (keepM (L.take j) x.marks).length (List.drop 0 ((keepM (L.take j) x.marks).map V.str)) ++ List.take 1 (List.drop 0 [V.str m]))) = (keepM (L.take (j + 1)) x.marks).map V.str := by
            have hn : nrL ((keepM (L.take j) x.marks).map V.str ++ [V.str m]) := (nrL_append _ _).2 ⟨nr_strs _, ⟨trivial, trivial⟩⟩
            have e : List.take 1 (List.drop 0 [V.str m]) = [V.str m] := rfl
            rw [List.drop_zero, List.take_of_length_le (by omega), hks, List.map_append, e, kill_nrL 3 hn, kill_nrL 4 hn]
            rfl
          have he1 : (keepM (L.take (j + 1)) x.marks).length = (keepM (L.take j) x.marks).length + (List.take 1 (List.drop 0 [V.str m])).length := by rw [hks]; simp
          conv => whnf
          repeat' (first | (refine brd_t (by first | assumption | omega) ?_; conv => whnf) | (refine brd_f (by first | assumption | omega) ?_; conv => whnf) | (refine ask (by first | assumption | omega) ?_; conv => whnf) | (refine fit64 (by omega) ?_; conv => whnf) | (refine fit (by simp only [kmin, kmax]; omega) ?_; conv => whnf) | (refine br_t (by assumption) ?_; conv => whnf) | (refine br_f (by assumption) ?_; conv => whnf) | (refine get_of (by assumption) ?_; conv => whnf) | (refine get_map (by assumption) ?_; conv => whnf) | (refine call_eq (hcs) hC hasBody_64 ?_ ?_ ?_; kernel_rfl; kernel_rfl; conv => whnf) | (refine callq_eq (hcs) hC hasBody_64 ?_ ?_ ?_; kernel_rfl; kernel_rfl; conv => whnf) | (refine brd_t rfl ?_; conv => whnf) | (refine ask (Nat.le_refl 1) ?_; conv => whnf) | (refine ask ⟨?_, ?_, ?_⟩ ?_; omega; (show _ + 1 ≤ 9223372036854775807; omega); (show (_ + 1) * 16 ≤ 140737488355328; omega); conv => whnf) | (refine draw_lex hE ?_ ?_; decide +kernel; conv => whnf) | (refine draw_any hE [⟨0, [(0, none), (1, none), (2, none), (3, none), (4, none), (5, none), (6, none), (7, none), (8, none), (9, none), (10, none), (11, none), (12, none)], none, [], [[]]⟩] ?_ ?_; decide +kernel; conv => whnf) | (refine draw_any hE [⟨0, [(0, none), (1, none), (2, none), (3, none), (4, none), (5, none), (6, none), (7, none), (8, none), (9, none), (10, none)], some 11, [], [[]]⟩] ?_ ?_; decide +kernel; conv => whnf) | (refine brd (fun h => ?_) (fun h => ?_) <;> conv => whnf) | (refine br (fun h => ?_) (fun h => ?_) <;> conv => whnf) | (refine ret_now hE ?_; conv => whnf) | (intro hlen; conv => whnf) | (refine seg_here ?_; conv => whnf) | (refine both ?_ ?_ <;> conv => whnf))
          refine next_drop [2, 6, 8, 9, 13, 14, 15, 26, 27, 28] [4] (j + 1) hjlt (show L.length - (j + 1) < L.length - j by omega) ?_
          conv => whnf
          rw [ha1, ha4, ← he1]
          rfl
      · have hK : keepM (L.take j) x.marks = keepM L x.marks := by rw [List.take_of_length_le (by omega)]
        have hnR : normR L x = ⟨x.text, keepM (L.take j) x.marks⟩ := by unfold normR; rw [hK]
        rw [hnR] at hst
        generalize keepM (L.take j) x.marks = K at hst hkl hkm ⊢
        have hkn : ∀ id, killL id ((outN L l k).map rnA) = (outN L l k).map rnA := fun id => kill_nrL id (nr_rn _)
        have hj1 : ∀ i < k + 1, ∀ y, l[i]? = some y → okR L y = true := fun i hi y hy => by
          by_cases e : i = k
          · subst e
            rw [hx] at hy
            cases hy
            exact hok
          · exact hj i (by omega) y hy
        have hxt := sumT_mem hmem
        have hnK : nrL (killL 0 (K.map V.str)) := by rw [kill_nrL 0 (nr_strs K)]; exact nr_strs K
        have hadd : killL 4 (killL 2 (killL 1 (frzL 3 (killL 0 (K.map V.str)) (killL 0 (List.take (outN L l k).length (List.drop 0 ((outN L l k).map rnA)) ++ List.take 1 (List.drop 0 [V.agg [.str x.text, .sl 3 0 K.length]])))))) = (outN L l k ++ [(⟨x.text, K⟩ : Rn)]).map rnA := by
          have e : List.take 1 (List.drop 0 [V.agg [.str x.text, .sl 3 0 K.length]]) = [V.agg [.str x.text, .sl 3 0 K.length]] := rfl
          have e2 : killL 0 [V.agg [.str x.text, .sl 3 0 K.length]] = [V.agg [.str x.text, .sl 3 0 K.length]] := rfl
          rw [List.drop_zero, List.take_of_length_le (by omega), e, killL_append, e2, kill_nrL 0 (nr_strs K), hkn, frzL_ap, frz_nrL _ _ (nr_rn _), frz_run]
          have e3 : (outN L l k).map rnA ++ [rnA ⟨x.text, K⟩] = (outN L l k ++ [(⟨x.text, K⟩ : Rn)]).map rnA := by rw [List.map_append]; rfl
          rw [e3, kill_nrL 1 (nr_rn _), kill_nrL 2 (nr_rn _), kill_nrL 4 (nr_rn _)]
        have hlen1 : (outN L l k).length + (List.take 1 (List.drop 0 [V.agg [.str x.text, .sl 3 0 K.length]])).length = (outN L l k ++ [(⟨x.text, K⟩ : Rn)]).length := by simp
        rcases rn_last (outN L l k) with ho | ⟨o, q, ho⟩
        · have hz : (outN L l k).length = 0 := by rw [ho]; rfl
          by_cases ht : x.text = []
          · have hst1 : outN L l (k + 1) = outN L l k := by rw [hst, ho, addR_nil, if_pos ht]
            conv => whnf
            repeat' (first | (refine brd_t (by first | assumption | omega) ?_; conv => whnf) | (refine brd_f (by first | assumption | omega) ?_; conv => whnf) | (refine ask (by first | assumption | omega) ?_; conv => whnf) | (refine fit64 (by omega) ?_; conv => whnf) | (refine fit (by simp only [kmin, kmax]; omega) ?_; conv => whnf) | (refine br_t (by assumption) ?_; conv => whnf) | (refine br_f (by assumption) ?_; conv => whnf) | (refine get_of (by assumption) ?_; conv => whnf) | (refine get_map (by assumption) ?_; conv => whnf) | (refine brd_t rfl ?_; conv => whnf) | (refine ask (Nat.le_refl 1) ?_; conv => whnf) | (refine ask (by omega) ?_; conv => whnf) | (refine ask ⟨?_, ?_, ?_⟩ ?_; omega; (show _ + 1 ≤ 9223372036854775807; omega); (show (_ + 1) * 40 ≤ 140737488355328; omega); conv => whnf) | (refine draw_lex hE ?_ ?_; decide +kernel; conv => whnf) | (refine draw_any hE [⟨0, [(0, none), (1, none), (2, none), (3, none), (4, none), (5, none), (6, none), (7, none), (8, none), (9, none), (10, none), (11, none), (12, none)], none, [], [[]]⟩] ?_ ?_; decide +kernel; conv => whnf) | (refine draw_any hE [⟨0, [(0, none), (1, none), (2, none), (3, none), (4, none), (5, none), (6, none), (7, none), (8, none), (9, none), (10, none)], some 11, [], [[]]⟩] ?_ ?_; decide +kernel; conv => whnf) | (refine brd (fun h => ?_) (fun h => ?_) <;> conv => whnf) | (refine br (fun h => ?_) (fun h => ?_) <;> conv => whnf) | (refine ret_now hE ?_; conv => whnf) | (intro hlen; conv => whnf) | (refine seg_here ?_; conv => whnf) | (refine both ?_ ?_ <;> conv => whnf))
            refine next_drop [2, 6, 13, 14, 15] [1, 2, 3] (k + 1) ⟨hlt, hj1⟩ (show l.length - (k + 1) < l.length - k by omega) ?_
            conv => whnf
            rw [hkn, hkn, hkn, hst1]
            rfl
          · have hst1 : outN L l (k + 1) = outN L l k ++ [(⟨x.text, K⟩ : Rn)] := by rw [hst, ho, addR_nil, if_neg ht]; rfl
            conv => whnf
            repeat' (first | (refine brd_t (by first | assumption | omega) ?_; conv => whnf) | (refine brd_f (by first | assumption | omega) ?_; conv => whnf) | (refine ask (by first | assumption | omega) ?_; conv => whnf) | (refine fit64 (by omega) ?_; conv => whnf) | (refine fit (by simp only [kmin, kmax]; omega) ?_; conv => whnf) | (refine br_t (by assumption) ?_; conv => whnf) | (refine br_f (by assumption) ?_; conv => whnf) | (refine get_of (by assumption) ?_; conv => whnf) | (refine get_map (by assumption) ?_; conv => whnf) | (refine brd_t rfl ?_; conv => whnf) | (refine ask (Nat.le_refl 1) ?_; conv => whnf) | (refine ask (by omega) ?_; conv => whnf) | (refine ask ⟨?_, ?_, ?_⟩ ?_; omega; (show _ + 1 ≤ 9223372036854775807; omega); (show (_ + 1) * 40 ≤ 140737488355328; omega); conv => whnf) | (refine draw_lex hE ?_ ?_; decide +kernel; conv => whnf) | (refine draw_any hE [⟨0, [(0, none), (1, none), (2, none), (3, none), (4, none), (5, none), (6, none), (7, none), (8, none), (9, none), (10, none), (11, none), (12, none)], none, [], [[]]⟩] ?_ ?_; decide +kernel; conv => whnf) | (refine draw_any hE [⟨0, [(0, none), (1, none), (2, none), (3, none), (4, none), (5, none), (6, none), (7, none), (8, none), (9, none), (10, none)], some 11, [], [[]]⟩] ?_ ?_; decide +kernel; conv => whnf) | (refine brd (fun h => ?_) (fun h => ?_) <;> conv => whnf) | (refine br (fun h => ?_) (fun h => ?_) <;> conv => whnf) | (refine ret_now hE ?_; conv => whnf) | (intro hlen; conv => whnf) | (refine seg_here ?_; conv => whnf) | (refine both ?_ ?_ <;> conv => whnf))
            refine up_freeze 3 (z := 1) (els := killL 0 (K.map V.str)) rfl hnK (next_drop [2, 6, 13, 14, 15] [1, 2, 4] (k + 1) ⟨hlt, hj1⟩ (show l.length - (k + 1) < l.length - k by omega) ?_)
            conv => whnf
            rw [hadd, hlen1, hst1]
            rfl
        · have hlast : ((outN L l k).map rnA)[0 + (((outN L l k).length : Int) - 1).toNat]? = some (.agg [.str q.text, .lst (q.marks.map V.str)]) := by
            have : (outN L l k).length = o.length + 1 := by rw [ho]; simp
            rw [Nat.zero_add, show (((outN L l k).length : Int) - 1).toNat = o.length by omega, ho]
            simp [rnA]
          have hol1 : (outN L l k).length = o.length + 1 := by rw [ho]; simp
          have heq := equal_strs q.marks K
          have hqt : q.text.length + x.text.length ≤ 1048576 := by
            have h1 : q.text.length ≤ sumT (outN L l k) := sumT_mem (by rw [ho]; simp)
            have h2 := sumT_take l (k + 1)
            rw [List.take_add_one, hx, Option.toList_some, sumT_app] at h2
            have h3 : sumT [x] = x.text.length := by simp [sumT]
            omega
          by_cases hqm : q.marks = K
          · rw [decide_eq_true hqm] at heq
            conv => whnf
            repeat' (first | (refine brd_t (by first | assumption | omega) ?_; conv => whnf) | (refine brd_f (by first | assumption | omega) ?_; conv => whnf) | (refine ask (by first | assumption | omega) ?_; conv => whnf) | (refine fit64 (by omega) ?_; conv => whnf) | (refine fit (by simp only [kmin, kmax]; omega) ?_; conv => whnf) | (refine br_t (by assumption) ?_; conv => whnf) | (refine br_f (by assumption) ?_; conv => whnf) | (refine get_of (by assumption) ?_; conv => whnf) | (refine get_map (by assumption) ?_; conv => whnf) | (refine get_of hlast ?_; conv => whnf) | (refine callq_lend 3 heq hC hasBody_80 rfl (nr_strs _) rfl (frz_sel 3 q.marks K) rfl rfl ?_; conv => whnf) | (refine brd_t rfl ?_; conv => whnf) | (refine ask (Nat.le_refl 1) ?_; conv => whnf) | (refine ask (by omega) ?_; conv => whnf) | (refine ask ⟨?_, ?_, ?_⟩ ?_; omega; (show _ + 1 ≤ 9223372036854775807; omega); (show (_ + 1) * 40 ≤ 140737488355328; omega); conv => whnf) | (refine draw_lex hE ?_ ?_; decide +kernel; conv => whnf) | (refine draw_any hE [⟨0, [(0, none), (1, none), (2, none), (3, none), (4, none), (5, none), (6, none), (7, none), (8, none), (9, none), (10, none), (11, none), (12, none)], none, [], [[]]⟩] ?_ ?_; decide +kernel; conv => whnf) | (refine draw_any hE [⟨0, [(0, none), (1, none), (2, none), (3, none), (4, none), (5, none), (6, none), (7, none), (8, none), (9, none), (10, none)], some 11, [], [[]]⟩] ?_ ?_; decide +kernel; conv => whnf) | (refine brd (fun h => ?_) (fun h => ?_) <;> conv => whnf) | (refine br (fun h => ?_) (fun h => ?_) <;> conv => whnf) | (refine ret_now hE ?_; conv => whnf) | (intro hlen; conv => whnf) | (refine seg_here ?_; conv => whnf) | (refine both ?_ ?_ <;> conv => whnf))
            have hst1 : outN L l (k + 1) = o ++ [(⟨q.text ++ x.text, q.marks⟩ : Rn)] := by rw [hst, ho, addR_same o q _ hqm]
            have he6 : killL 3 (killL 2 (killL 1 (((outN L l k).map rnA).set (0 + (((outN L l k).length : Int) - 1).toNat) (.agg [.str (q.text ++ x.text), .lst (q.marks.map V.str)])))) = (o ++ [(⟨q.text ++ x.text, q.marks⟩ : Rn)]).map rnA := by
              have e : ((outN L l k).map rnA).set (0 + (((outN L l k).length : Int) - 1).toNat) (.agg [.str (q.text ++ x.text), .lst (q.marks.map V.str)]) = (o ++ [(⟨q.text ++ x.text, q.marks⟩ : Rn)]).map rnA := by
                rw [Nat.zero_add, show (((outN L l k).length : Int) - 1).toNat = o.length by omega, ho, List.map_append, List.set_append_right _ _ (by simp), List.map_append]
                simp [rnA]
              rw [e, kill_nrL 1 (nr_rn _), kill_nrL 2 (nr_rn _), kill_nrL 3 (nr_rn _)]
            have he5 : (outN L l k).length = (o ++ [(⟨q.text ++ x.text, q.marks⟩ : Rn)]).length := by rw [hol1]; simp
            refine next_drop [2, 6, 13, 14, 15] [1, 2, 3] (k + 1) ⟨hlt, hj1⟩ (show l.length - (k + 1) < l.length - k by omega) ?_
            conv => whnf
            rw [he6, he5, hst1]
            rfl
          · rw [decide_eq_false hqm] at heq
            by_cases ht : x.text = []
            · have hst1 : outN L l (k + 1) = outN L l k := by rw [hst, ho, addR_other o q _ hqm, if_pos ht]
              conv => whnf
              repeat' (first | (refine brd_t (by first | assumption | omega) ?_; conv => whnf) | (refine brd_f (by first | assumption | omega) ?_; conv => whnf) | (refine ask (by first | assumption | omega) ?_; conv => whnf) | (refine fit64 (by omega) ?_; conv => whnf) | (refine fit (by simp only [kmin, kmax]; omega) ?_; conv => whnf) | (refine br_t (by assumption) ?_; conv => whnf) | (refine br_f (by assumption) ?_; conv => whnf) | (refine get_of (by assumption) ?_; conv => whnf) | (refine get_map (by assumption) ?_; conv => whnf) | (refine get_of hlast ?_; conv => whnf) | (refine callq_lend 3 heq hC hasBody_80 rfl (nr_strs _) rfl (frz_sel 3 q.marks K) rfl rfl ?_; conv => whnf) | (refine brd_t rfl ?_; conv => whnf) | (refine ask (Nat.le_refl 1) ?_; conv => whnf) | (refine ask (by omega) ?_; conv => whnf) | (refine ask ⟨?_, ?_, ?_⟩ ?_; omega; (show _ + 1 ≤ 9223372036854775807; omega); (show (_ + 1) * 40 ≤ 140737488355328; omega); conv => whnf) | (refine draw_lex hE ?_ ?_; decide +kernel; conv => whnf) | (refine draw_any hE [⟨0, [(0, none), (1, none), (2, none), (3, none), (4, none), (5, none), (6, none), (7, none), (8, none), (9, none), (10, none), (11, none), (12, none)], none, [], [[]]⟩] ?_ ?_; decide +kernel; conv => whnf) | (refine draw_any hE [⟨0, [(0, none), (1, none), (2, none), (3, none), (4, none), (5, none), (6, none), (7, none), (8, none), (9, none), (10, none)], some 11, [], [[]]⟩] ?_ ?_; decide +kernel; conv => whnf) | (refine brd (fun h => ?_) (fun h => ?_) <;> conv => whnf) | (refine br (fun h => ?_) (fun h => ?_) <;> conv => whnf) | (refine ret_now hE ?_; conv => whnf) | (intro hlen; conv => whnf) | (refine seg_here ?_; conv => whnf) | (refine both ?_ ?_ <;> conv => whnf))
              refine next_drop [2, 6, 13, 14, 15] [1, 2, 3] (k + 1) ⟨hlt, hj1⟩ (show l.length - (k + 1) < l.length - k by omega) ?_
              conv => whnf
              rw [hkn, hkn, hkn, hst1]
              rfl
            · have hst1 : outN L l (k + 1) = outN L l k ++ [(⟨x.text, K⟩ : Rn)] := by rw [hst, ho, addR_other o q _ hqm, if_neg ht]
              conv => whnf
              repeat' (first | (refine brd_t (by first | assumption | omega) ?_; conv => whnf) | (refine brd_f (by first | assumption | omega) ?_; conv => whnf) | (refine ask (by first | assumption | omega) ?_; conv => whnf) | (refine fit64 (by omega) ?_; conv => whnf) | (refine fit (by simp only [kmin, kmax]; omega) ?_; conv => whnf) | (refine br_t (by assumption) ?_; conv => whnf) | (refine br_f (by assumption) ?_; conv => whnf) | (refine get_of (by assumption) ?_; conv => whnf) | (refine get_map (by assumption) ?_; conv => whnf) | (refine get_of hlast ?_; conv => whnf) | (refine callq_lend 3 heq hC hasBody_80 rfl (nr_strs _) rfl (frz_sel 3 q.marks K) rfl rfl ?_; conv => whnf) | (refine brd_t rfl ?_; conv => whnf) | (refine ask (Nat.le_refl 1) ?_; conv => whnf) | (refine ask (by omega) ?_; conv => whnf) | (refine ask ⟨?_, ?_, ?_⟩ ?_; omega; (show _ + 1 ≤ 9223372036854775807; omega); (show (_ + 1) * 40 ≤ 140737488355328; omega); conv => whnf) | (refine draw_lex hE ?_ ?_; decide +kernel; conv => whnf) | (refine draw_any hE [⟨0, [(0, none), (1, none), (2, none), (3, none), (4, none), (5, none), (6, none), (7, none), (8, none), (9, none), (10, none), (11, none), (12, none)], none, [], [[]]⟩] ?_ ?_; decide +kernel; conv => whnf) | (refine draw_any hE [⟨0, [(0, none), (1, none), (2, none), (3, none), (4, none), (5, none), (6, none), (7, none), (8, none), (9, none), (10, none)], some 11, [], [[]]⟩] ?_ ?_; decide +kernel; conv => whnf) | (refine brd (fun h => ?_) (fun h => ?_) <;> conv => whnf) | (refine br (fun h => ?_) (fun h => ?_) <;> conv => whnf) | (refine ret_now hE ?_; conv => whnf) | (intro hlen; conv => whnf) | (refine seg_here ?_; conv => whnf) | (refine both ?_ ?_ <;> conv => whnf))
              refine up_freeze 3 (z := 1) (els := killL 0 (K.map V.str)) rfl hnK (next_drop [2, 6, 13, 14, 15] [1, 2, 4] (k + 1) ⟨hlt, hj1⟩ (show l.length - (k + 1) < l.length - k by omega) ?_)
              conv => whnf
              rw [hadd, hlen1, hst1]
              rfl
    · conv => whnf
      repeat' (first | (refine brd_t (by first | assumption | omega) ?_; conv => whnf) | (refine brd_f (by first | assumption | omega) ?_; conv => whnf) | (refine ask (by first | assumption | omega) ?_; conv => whnf) | (refine fit64 (by omega) ?_; conv => whnf) | (refine fit (by simp only [kmin, kmax]; omega) ?_; conv => whnf) | (refine br_t (by assumption) ?_; conv => whnf) | (refine br_f (by assumption) ?_; conv => whnf) | (refine get_of (by assumption) ?_; conv => whnf) | (refine get_map (by assumption) ?_; conv => whnf) | (refine call_eq (hcf) hC hasBody_78 ?_ ?_ ?_; kernel_rfl; kernel_rfl; conv => whnf) | (refine callq_eq (hcf) hC hasBody_78 ?_ ?_ ?_; kernel_rfl; kernel_rfl; conv => whnf) | (refine brd_t rfl ?_; conv => whnf) | (refine draw_lex hE ?_ ?_; decide +kernel; conv => whnf) | (refine draw_any hE [⟨0, [(0, none), (1, none), (2, none), (3, none), (4, none), (5, none), (6, none), (7, none), (8, none), (9, none), (10, none), (11, none), (12, none)], none, [], [[]]⟩] ?_ ?_; decide +kernel; conv => whnf) | (refine draw_any hE [⟨0, [(0, none), (1, none), (2, none), (3, none), (4, none), (5, none), (6, none), (7, none), (8, none), (9, none), (10, none)], some 11, [], [[]]⟩] ?_ ?_; decide +kernel; conv => whnf) | (refine brd (fun h => ?_) (fun h => ?_) <;> conv => whnf) | (refine br (fun h => ?_) (fun h => ?_) <;> conv => whnf) | (refine ret_now hE ?_; conv => whnf) | (intro hlen; conv => whnf) | (refine seg_here ?_; conv => whnf) | (refine both ?_ ?_ <;> conv => whnf))
      exact ⟨rfl, by rw [normV_bad hmem hok]; rfl⟩
  · have he : k = l.length := by omega
    conv => whnf
    repeat' (first | (refine brd_t (by first | assumption | omega) ?_; conv => whnf) | (refine brd_f (by first | assumption | omega) ?_; conv => whnf) | (refine ask (by first | assumption | omega) ?_; conv => whnf) | (refine fit64 (by omega) ?_; conv => whnf) | (refine fit (by simp only [kmin, kmax]; omega) ?_; conv => whnf) | (refine br_t (by assumption) ?_; conv => whnf) | (refine br_f (by assumption) ?_; conv => whnf) | (refine get_of (by assumption) ?_; conv => whnf) | (refine get_map (by assumption) ?_; conv => whnf) | (refine ret_up (up_frzK 0 4 [5] rfl (nr_rn _) rfl (by omega) rfl (up_here ?_))) | (refine draw_lex hE ?_ ?_; decide +kernel; conv => whnf) | (refine draw_any hE [⟨0, [(0, none), (1, none), (2, none), (3, none), (4, none), (5, none), (6, none), (7, none), (8, none), (9, none), (10, none), (11, none), (12, none)], none, [], [[]]⟩] ?_ ?_; decide +kernel; conv => whnf) | (refine draw_any hE [⟨0, [(0, none), (1, none), (2, none), (3, none), (4, none), (5, none), (6, none), (7, none), (8, none), (9, none), (10, none)], some 11, [], [[]]⟩] ?_ ?_; decide +kernel; conv => whnf) | (refine brd (fun h => ?_) (fun h => ?_) <;> conv => whnf) | (refine br (fun h => ?_) (fun h => ?_) <;> conv => whnf) | (refine ret_now hE ?_; conv => whnf) | (intro hlen; conv => whnf) | (refine seg_here ?_; conv => whnf) | (refine both ?_ ?_ <;> conv => whnf))
    refine ⟨rfl, ?_⟩
    rw [normV_ok (fun j hjl => hj j (by omega)), ← outN_all, he]
    simp only [V.nl, nlL, nl_rnL]
end Go.Proofs.YtkkcmobnhiiacaaDoor
