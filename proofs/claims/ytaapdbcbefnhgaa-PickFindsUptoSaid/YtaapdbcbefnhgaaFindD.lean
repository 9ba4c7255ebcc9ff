/- The document's PickFind, walked. No conditions. -/
import Derived.Test.YtaapdbcbefnhgaaFind
import Derived.Test.YtaapdbcbefnhgaaMeant
set_option linter.unusedSimpArgs false
set_option linter.unusedVariables false
set_option maxRecDepth 100000
namespace Go.Proofs.Ytaapdbcbefnhgaa
open Go.RowKit

def lookV : V := .fn 43 [.ptr 0 0 0, .ptr 1 0 0, .ptr 2 0 0]
def obL (P : List Pk) (out : List (List Int)) : List Ob := [.row 1 [.lst (P.map pickA)], .row 1 [.sl 3 0 out.length], .row 1 [lookV], .row 1 (pthV out)]
set_option maxHeartbeats 16000000 in
theorem h_look (P : List Pk) (hP : 1 ≤ P.length ∧ P.length ≤ 10) : ∀ (N : Nat) (l ch : List Nd) (path : List Int) (out : List (List Int)), szL l ≤ N → out.length + szL l ≤ 2097152 → path.length + szL l ≤ 1048576 → ch.length + szL l ≤ 1048576 →
    HFn Try.prog 43 [.lst (nodesL l), .lst (nodesL ch), ints path, .ptr 0 0 0, .ptr 1 0 0, .ptr 2 0 0] (obL P out) [0, 1, 2]
    (fun r o => r = .tup [] ∧ o = obL P (out ++ fndL P ch path 0 l)) := by
  intro N
  induction N using Nat.strongRecOn with
  | _ N ih =>
    intro l ch path out hps hb1 hb2 hb3
    have hlm := nodesL_length l
    have hll := szL_len l
    have hcm := nodesL_length ch
    refine hfnE (T := Try.tt) Try.func43 rfl tt_all follows_all ?_ ?_ fun C vs hC hE => ?_
    · kernel_rfl
    · exact Nat.le_of_ble_eq_true (by kernel_rfl)
    conv => whnf
    repeat' (first | (refine brd_t (by first | assumption | omega) ?_; conv => whnf) | (refine brd_f (by first | assumption | omega) ?_; conv => whnf) | (refine ask (by first | assumption | omega) ?_; conv => whnf) | (refine fit64 (by omega) ?_; conv => whnf) | (refine fit (by simp only [kmin, kmax]; omega) ?_; conv => whnf) | (refine br_t (by assumption) ?_; conv => whnf) | (refine br_f (by assumption) ?_; conv => whnf) | (refine get_of (by assumption) ?_; conv => whnf) | (refine get_map (by assumption) ?_; conv => whnf) | (refine draw_lex hE ?_ ?_; decide +kernel; conv => whnf) | (refine draw_any hE [⟨2, [(0, none), (2, none), (1, some 0), (3, some 1)], some 4⟩, ⟨0, [(5, none)], none⟩] ?_ ?_; decide +kernel; conv => whnf) | (refine brd (fun h => ?_) (fun h => ?_) <;> conv => whnf) | (refine br (fun h => ?_) (fun h => ?_) <;> conv => whnf) | (refine ret_now hE ?_; conv => whnf) | (intro hlen; conv => whnf) | (refine seg_here ?_; conv => whnf))
    refine loopE (fun ((k, cur) : Nat × List (List Int)) => ⟨47, [(1, .lst (nodesL ch)), (2, ints path), (3, .ptr 0 0 0), (4, .ptr 1 0 0), (5, .ptr 2 0 0), (13, .lst (nodesL l)), (14, .int .i64 (nodesL l).length), (15, .int .i64 k)], [some (.row 1 [.lst (P.map pickA)]), some (.row 1 [.sl 3 0 cur.length]), some (.row 1 [lookV]), some (.row 1 (pthV cur)), some (.hid vs [.lst (nodesL l), .lst (nodesL ch), ints path, .ptr 0 0 0, .ptr 1 0 0, .ptr 2 0 0])]⟩)
      (fun (k, cur) => k ≤ l.length ∧ cur.length ≤ out.length + szL (l.take k) ∧ cur ++ fndL P ch path k (l.drop k) = out ++ fndL P ch path 0 l) (fun (k, _) => l.length - k) (0, out) hE ?_ ?_ ⟨Nat.zero_le _, Nat.le_add_right _ _, rfl⟩ ?_
    · kernel_rfl
    · exact at_keep [1, 2, 3, 4, 5, 13, 14, 15] rfl
    rintro ⟨k, cur⟩ ⟨hk, hcl, hI⟩
    have hom := pthV_len cur
    have htl := sz_take_le l k
    by_cases hlt : k < l.length
    · obtain ⟨n, a, t, qs, hx, hx'⟩ := node_at hlt
      have hst := fndL_step (P := P) (ch := ch) (path := path) hx
      rw [hst] at hI
      have hp2 := szL_mem (List.mem_of_getElem? hx)
      have e1 : szN (.mk n a t qs) = (n.length + 1) + ((a.map szA).sum + 1) + (t.length + 1) + (szL qs + 1) + 1 := by simp only [szN, szS]
      have htl2 := sz_take_le l (k + 1)
      have hszk := sz_take hx
      by_cases hn : n = []
      · rw [if_pos (show (Nd.mk n a t qs).name = [] from hn), List.nil_append] at hI
        conv => whnf
        repeat' (first | (refine brd_t (by first | assumption | omega) ?_; conv => whnf) | (refine brd_f (by first | assumption | omega) ?_; conv => whnf) | (refine ask (by first | assumption | omega) ?_; conv => whnf) | (refine fit64 (by omega) ?_; conv => whnf) | (refine fit (by simp only [kmin, kmax]; omega) ?_; conv => whnf) | (refine br_t (by assumption) ?_; conv => whnf) | (refine br_f (by assumption) ?_; conv => whnf) | (refine get_of (by assumption) ?_; conv => whnf) | (refine get_map (by assumption) ?_; conv => whnf) | (refine draw_lex hE ?_ ?_; decide +kernel; conv => whnf) | (refine draw_any hE [⟨2, [(0, none), (2, none), (1, some 0), (3, some 1)], some 4⟩, ⟨0, [(5, none)], none⟩] ?_ ?_; decide +kernel; conv => whnf) | (refine brd (fun h => ?_) (fun h => ?_) <;> conv => whnf) | (refine br (fun h => ?_) (fun h => ?_) <;> conv => whnf) | (refine ret_now hE ?_; conv => whnf) | (intro hlen; conv => whnf) | (refine seg_here ?_; conv => whnf))
        exact next_drop [1, 2, 3, 4, 5, 13, 14, 15] [5] (k + 1, cur) ⟨hlt, by show cur.length ≤ _; omega, hI⟩ (show l.length - (k + 1) < l.length - k by omega) (by
          conv => whnf
          rw [pthV_kill]
          rfl)
      · rw [if_neg (show ¬ (Nd.mk n a t qs).name = [] from hn)] at hI
        conv => whnf
        repeat' (first | (refine brd_t (by first | assumption | omega) ?_; conv => whnf) | (refine brd_f (by first | assumption | omega) ?_; conv => whnf) | (refine ask (by first | assumption | omega) ?_; conv => whnf) | (refine fit64 (by omega) ?_; conv => whnf) | (refine fit (by simp only [kmin, kmax]; omega) ?_; conv => whnf) | (refine br_t (by assumption) ?_; conv => whnf) | (refine br_f (by assumption) ?_; conv => whnf) | (refine get_of (by assumption) ?_; conv => whnf) | (refine get_map (by assumption) ?_; conv => whnf) | (refine ⟨cells_nodes _, ?_⟩; conv => whnf) | (refine ⟨cells_pi path, ?_⟩; conv => whnf) | (refine ask (Nat.le_refl 1) ?_; conv => whnf) | (refine ask ⟨?_, ?_⟩ ?_; (first | decide | (simp <;> omega)); (first | decide | (simp <;> omega)); conv => whnf) | (refine ask ⟨?_, ?_, ?_⟩ ?_; (first | omega | (simp <;> omega)); (first | omega | (simp <;> omega)); (first | omega | (simp <;> omega)); conv => whnf) | (refine draw_lex hE ?_ ?_; decide +kernel; conv => whnf) | (refine draw_any hE [⟨2, [(0, none), (2, none), (1, some 0), (3, some 1)], some 4⟩, ⟨0, [(5, none)], none⟩] ?_ ?_; decide +kernel; conv => whnf) | (refine brd (fun h => ?_) (fun h => ?_) <;> conv => whnf) | (refine br (fun h => ?_) (fun h => ?_) <;> conv => whnf) | (refine ret_now hE ?_; conv => whnf) | (intro hlen; conv => whnf) | (refine seg_here ?_; conv => whnf))
        have hch1 : (ch ++ [Nd.mk n a t qs]).length = ch.length + 1 := by simp
        have hcm1 := nodesL_length (ch ++ [Nd.mk n a t qs])
        have hcm2 : (nodesL ch).length + (List.take 1 (List.drop 0 [V.agg [.str n, .lst (a.map attA), .str t, .lst (nodesL qs)]])).length = (nodesL (ch ++ [.mk n a t qs])).length := by rw [hcm1, hch1, hcm]; simp
        have hC1 : killL 9 (killL 7 (frzL 8 ((path ++ [(k : Int)]).map (V.int .i64)) (killL 8 (killL 6 (List.take (nodesL ch).length (List.drop 0 (nodesL ch)) ++ List.take 1 (List.drop 0 [V.agg [.str n, .lst (a.map attA), .str t, .lst (nodesL qs)]])))))) = nodesL (ch ++ [.mk n a t qs]) := by
          rw [List.drop_zero, List.take_length, show nodesL ch ++ List.take 1 (List.drop 0 [V.agg [.str n, .lst (a.map attA), .str t, .lst (nodesL qs)]]) = nodesL (ch ++ [.mk n a t qs]) by rw [nodesL_append]; simp [nodesL, nodeA], kill_nrL _ (nodesL_nr _), kill_nrL _ (nodesL_nr _), frz_nrL _ _ (nodesL_nr _), kill_nrL _ (nodesL_nr _), kill_nrL _ (nodesL_nr _)]
        have hP1 : killL 8 (List.take (path.map (V.int .i64)).length (List.drop 0 (path.map (V.int .i64))) ++ List.take 1 (List.drop 0 [V.int .i64 (k : Int)])) = (path ++ [(k : Int)]).map (V.int .i64) := by
          rw [List.drop_zero, List.take_length, show (path.map (V.int .i64)) ++ List.take 1 (List.drop 0 [V.int .i64 (k : Int)]) = (path ++ [(k : Int)]).map (V.int .i64) by rw [List.map_append]; rfl, kill_nrL _ (nr_i64 _)]
        have hP2 : (path.map (V.int .i64)).length + (List.take 1 (List.drop 0 [V.int .i64 (k : Int)])).length = ((path ++ [(k : Int)]).map (V.int .i64)).length := by simp
        refine call_up (up_frzK 8 12 [1, 2, 3, 4, 5, 10, 11, 13, 14, 15, 33, 34] (z := 1) (m := (path.map (V.int .i64)).length + (List.take 1 (List.drop 0 [V.int .i64 (k : Int)])).length) (els := (path ++ [(k : Int)]).map (V.int .i64)) ?_ (nr_i64 _) ?_ hP2 ?_
          (up_drops [7, 9] (up_trimE (up_same [some (.row 1 [.lst (P.map pickA)]), some (.row 1 [.sl 3 0 cur.length]), some (.row 1 [lookV]), some (.row 1 (pthV cur)), some (.hid vs [.lst (nodesL l), .lst (nodesL ch), ints path, .ptr 0 0 0, .ptr 1 0 0, .ptr 2 0 0]), some (.row 4 [.agg [.str n, .lst (a.map attA), .str t, .lst (nodesL qs)]]), some (.row 4 (nodesL (ch ++ [.mk n a t qs])))] ?_ (up_here ?_)))))
        · exact congrArg (fun x => some (some (Ob.row 1 x))) hP1
        · rfl
        · rfl
        · conv => whnf
          rw [hC1, pthV_kill, pthV_kill, pthV_frz, pthV_kill, pthV_kill]
          rfl
        conv => whnf
        have hme := ref_meant P P.length (ch ++ [.mk n a t qs]) (Nat.le_refl _) (by omega)
        rw [List.take_length] at hme
        have hfe : frzL 6 (nodesL (ch ++ [.mk n a t qs])) ([V.lst (P.map pickA), V.sl 6 0 ((nodesL ch).length + (List.take 1 (List.drop 0 [V.agg [.str n, .lst (a.map attA), .str t, .lst (nodesL qs)]])).length)] ++ []) = [.lst (P.map pickA), .lst (nodesL (ch ++ [.mk n a t qs]))] := by
          generalize (nodesL ch).length + (List.take 1 (List.drop 0 [V.agg [.str n, .lst (a.map attA), .str t, .lst (nodesL qs)]])).length = m at hcm2
          subst hcm2
          rw [List.append_nil, frzL_cons, frzL_cons, frz_sl, if_pos rfl, if_pos (by omega), List.drop_zero, List.take_length, frzL_nil]
          rfl
        obtain ⟨b, hb⟩ : ∃ b, mB P P.length (ch ++ [.mk n a t qs]) = b := ⟨_, rfl⟩
        rw [hb] at hme hI
        have hfz := fndL_sz P qs (ch ++ [.mk n a t qs]) (path ++ [(k : Int)]) 0
        have hpl : (path ++ [(k : Int)]).length = path.length + 1 := by simp
        rw [fndS] at hI
        refine call_lend 6 hme hC hasBody_44 rfl (nodesL_nr _) rfl hfe rfl rfl ?_
        conv => whnf
        cases b
        · rw [if_neg (by simp), List.nil_append] at hI
          have ih' := ih (szL qs) (by omega) qs (ch ++ [.mk n a t qs]) (path ++ [(k : Int)]) cur (Nat.le_refl _) (by omega) (by omega) (by omega)
          repeat' (first | (refine brd_t (by first | assumption | omega) ?_; conv => whnf) | (refine brd_f (by first | assumption | omega) ?_; conv => whnf) | (refine ask (by first | assumption | omega) ?_; conv => whnf) | (refine fit64 (by omega) ?_; conv => whnf) | (refine fit (by simp only [kmin, kmax]; omega) ?_; conv => whnf) | (refine br_t (by assumption) ?_; conv => whnf) | (refine br_f (by assumption) ?_; conv => whnf) | (refine get_of (by assumption) ?_; conv => whnf) | (refine get_map (by assumption) ?_; conv => whnf) | (refine draw_lex hE ?_ ?_; decide +kernel; conv => whnf) | (refine draw_any hE [⟨2, [(0, none), (2, none), (1, some 0), (3, some 1)], some 4⟩, ⟨0, [(5, none)], none⟩] ?_ ?_; decide +kernel; conv => whnf) | (refine brd (fun h => ?_) (fun h => ?_) <;> conv => whnf) | (refine br (fun h => ?_) (fun h => ?_) <;> conv => whnf) | (refine ret_now hE ?_; conv => whnf) | (intro hlen; conv => whnf) | (refine seg_here ?_; conv => whnf))
          refine call_up (up_frzK 6 43 [1, 2, 3, 4, 5, 13, 14, 15, 40, 42, 44] (z := 4) (m := (nodesL ch).length + (List.take 1 (List.drop 0 [V.agg [.str n, .lst (a.map attA), .str t, .lst (nodesL qs)]])).length) (els := nodesL (ch ++ [.mk n a t qs])) ?_ (nodesL_nr _) ?_ hcm2 ?_
            (up_drops [5, 7] (up_trimE (up_same [some (.row 1 [.lst (P.map pickA)]), some (.row 1 [.sl 3 0 (cur).length]), some (.row 1 [lookV]), some (.row 1 (pthV (cur))), some (.hid vs [.lst (nodesL l), .lst (nodesL ch), ints path, .ptr 0 0 0, .ptr 1 0 0, .ptr 2 0 0])] ?_ (up_here ?_)))))
          · rfl
          · rfl
          · rfl
          · conv => whnf
            rw [pthV_frz, pthV_kill, pthV_kill]
            rfl
          conv => whnf
          refine call_id ih' hC (by kernel_rfl) rfl (by simp [rnL, rnV, ints, obL, killL, V.kill]) ?_ [3] ?_ ?_ (by simp [rnL, rnV]) ?_ rfl ?_
          · intro j o ho
            match j, ho with
            | 0, ho => injection (show some _ = some o from ho) with ho; subst ho; exact ⟨rfl, _, rfl, by simp [rnL, rnV, obL]⟩
            | 1, ho => injection (show some _ = some o from ho) with ho; subst ho; exact ⟨rfl, _, rfl, by simp [rnL, rnV, obL]⟩
            | 2, ho => injection (show some _ = some o from ho) with ho; subst ho; exact ⟨rfl, _, rfl, by simp [rnL, rnV, lookV, obL]⟩
            | 3, ho => injection (show some _ = some o from ho) with ho; subst ho; exact ⟨rfl, rnO_nr (pthV_nr _)⟩
            | m + 4, ho => simp [obL] at ho
          · intro j hj hn
            simp [obL] at hj hn ⊢
            omega
          · intro j hj
            simp [obL] at hj ⊢
            omega
          · intro j o ho
            match j, ho with
            | 0, ho => injection (show some _ = some o from ho) with ho; subst ho; exact ⟨_, rfl, by simp [rnL, rnV, obL]⟩
            | 1, ho => injection (show some _ = some o from ho) with ho; subst ho; exact ⟨_, rfl, by simp [rnL, rnV, obL]⟩
            | 2, ho => injection (show some _ = some o from ho) with ho; subst ho; exact ⟨_, rfl, by simp [rnL, rnV, lookV, obL]⟩
            | 3, ho => injection (show some _ = some o from ho) with ho; subst ho; exact rnO_nr (pthV_nr _)
            | m + 4, ho => simp [obL] at ho
          conv => whnf
          repeat' (first | (refine brd_t (by first | assumption | omega) ?_; conv => whnf) | (refine brd_f (by first | assumption | omega) ?_; conv => whnf) | (refine ask (by first | assumption | omega) ?_; conv => whnf) | (refine fit64 (by omega) ?_; conv => whnf) | (refine fit (by simp only [kmin, kmax]; omega) ?_; conv => whnf) | (refine br_t (by assumption) ?_; conv => whnf) | (refine br_f (by assumption) ?_; conv => whnf) | (refine get_of (by assumption) ?_; conv => whnf) | (refine get_map (by assumption) ?_; conv => whnf) | (refine draw_lex hE ?_ ?_; decide +kernel; conv => whnf) | (refine draw_any hE [⟨2, [(0, none), (2, none), (1, some 0), (3, some 1)], some 4⟩, ⟨0, [(5, none)], none⟩] ?_ ?_; decide +kernel; conv => whnf) | (refine brd (fun h => ?_) (fun h => ?_) <;> conv => whnf) | (refine br (fun h => ?_) (fun h => ?_) <;> conv => whnf) | (refine ret_now hE ?_; conv => whnf) | (intro hlen; conv => whnf) | (refine seg_here ?_; conv => whnf))
          refine next_drop [1, 2, 3, 4, 5, 13, 14, 15] [] (k + 1, cur ++ fndL P (ch ++ [.mk n a t qs]) (path ++ [(k : Int)]) 0 qs) ⟨hlt, ?_, ?_⟩ (show l.length - (k + 1) < l.length - k by omega) ?_
          · show (cur ++ fndL P (ch ++ [.mk n a t qs]) (path ++ [(k : Int)]) 0 qs).length ≤ out.length + szL (l.take (k + 1))
            rw [List.length_append]
            omega
          · show (cur ++ fndL P (ch ++ [.mk n a t qs]) (path ++ [(k : Int)]) 0 qs) ++ fndL P ch path (k + 1) (l.drop (k + 1)) = _
            rw [← hI]
            simp
          · conv => whnf
            rfl
        · rw [if_pos rfl] at hI
          have hcl2 : (cur ++ [path ++ [(k : Int)]]).length = cur.length + 1 := by simp
          have ih' := ih (szL qs) (by omega) qs (ch ++ [.mk n a t qs]) (path ++ [(k : Int)]) (cur ++ [path ++ [(k : Int)]]) (Nat.le_refl _) (by omega) (by omega) (by omega)
          have hA : List.take cur.length (List.drop 0 (pthV cur)) ++ List.take 1 (List.drop 0 [V.lst ((path ++ [(k : Int)]).map (V.int .i64))]) = pthV (cur ++ [path ++ [(k : Int)]]) := by
            rw [List.drop_zero, List.take_of_length_le (by omega), pthV_app]
            rfl
          have hcl3 : cur.length + (List.take 1 (List.drop 0 [V.lst ((path ++ [(k : Int)]).map (V.int .i64))])).length = (cur ++ [path ++ [(k : Int)]]).length := by simp
          repeat' (first | (refine brd_t (by first | assumption | omega) ?_; conv => whnf) | (refine brd_f (by first | assumption | omega) ?_; conv => whnf) | (refine ask (by first | assumption | omega) ?_; conv => whnf) | (refine fit64 (by omega) ?_; conv => whnf) | (refine fit (by simp only [kmin, kmax]; omega) ?_; conv => whnf) | (refine br_t (by assumption) ?_; conv => whnf) | (refine br_f (by assumption) ?_; conv => whnf) | (refine get_of (by assumption) ?_; conv => whnf) | (refine get_map (by assumption) ?_; conv => whnf) | (refine ask (Nat.le_refl 1) ?_; conv => whnf) | (refine ask ⟨?_, ?_, ?_⟩ ?_; (first | omega | (simp <;> omega)); (show _ + 1 ≤ 9223372036854775807; omega); (show (_ + 1) * _ ≤ 140737488355328; omega); conv => whnf) | (refine draw_lex hE ?_ ?_; decide +kernel; conv => whnf) | (refine draw_any hE [⟨2, [(0, none), (2, none), (1, some 0), (3, some 1)], some 4⟩, ⟨0, [(5, none)], none⟩] ?_ ?_; decide +kernel; conv => whnf) | (refine brd (fun h => ?_) (fun h => ?_) <;> conv => whnf) | (refine br (fun h => ?_) (fun h => ?_) <;> conv => whnf) | (refine ret_now hE ?_; conv => whnf) | (intro hlen; conv => whnf) | (refine seg_here ?_; conv => whnf))
          refine call_up (up_frzK 6 43 [1, 2, 3, 4, 5, 13, 14, 15, 40, 42, 44] (z := 4) (m := (nodesL ch).length + (List.take 1 (List.drop 0 [V.agg [.str n, .lst (a.map attA), .str t, .lst (nodesL qs)]])).length) (els := nodesL (ch ++ [.mk n a t qs])) ?_ (nodesL_nr _) ?_ hcm2 ?_
            (up_drops [5, 7] (up_trimE (up_same [some (.row 1 [.lst (P.map pickA)]), some (.row 1 [.sl 3 0 ((cur ++ [path ++ [(k : Int)]])).length]), some (.row 1 [lookV]), some (.row 1 (pthV ((cur ++ [path ++ [(k : Int)]])))), some (.hid vs [.lst (nodesL l), .lst (nodesL ch), ints path, .ptr 0 0 0, .ptr 1 0 0, .ptr 2 0 0])] ?_ (up_here ?_)))))
          · exact congrArg (fun x => some (some (Ob.row 4 x))) (kill_nrL _ (nodesL_nr _))
          · rfl
          · rfl
          · conv => whnf
            rw [hA, pthV_kill, pthV_frz, pthV_kill, pthV_kill, hcl3]
            rfl
          conv => whnf
          refine call_id ih' hC (by kernel_rfl) rfl (by simp [rnL, rnV, ints, obL, killL, V.kill]) ?_ [3] ?_ ?_ (by simp [rnL, rnV]) ?_ rfl ?_
          · intro j o ho
            match j, ho with
            | 0, ho => injection (show some _ = some o from ho) with ho; subst ho; exact ⟨rfl, _, rfl, by simp [rnL, rnV, obL]⟩
            | 1, ho => injection (show some _ = some o from ho) with ho; subst ho; exact ⟨rfl, _, rfl, by simp [rnL, rnV, obL]⟩
            | 2, ho => injection (show some _ = some o from ho) with ho; subst ho; exact ⟨rfl, _, rfl, by simp [rnL, rnV, lookV, obL]⟩
            | 3, ho => injection (show some _ = some o from ho) with ho; subst ho; exact ⟨rfl, rnO_nr (pthV_nr _)⟩
            | m + 4, ho => simp [obL] at ho
          · intro j hj hn
            simp [obL] at hj hn ⊢
            omega
          · intro j hj
            simp [obL] at hj ⊢
            omega
          · intro j o ho
            match j, ho with
            | 0, ho => injection (show some _ = some o from ho) with ho; subst ho; exact ⟨_, rfl, by simp [rnL, rnV, obL]⟩
            | 1, ho => injection (show some _ = some o from ho) with ho; subst ho; exact ⟨_, rfl, by simp [rnL, rnV, obL]⟩
            | 2, ho => injection (show some _ = some o from ho) with ho; subst ho; exact ⟨_, rfl, by simp [rnL, rnV, lookV, obL]⟩
            | 3, ho => injection (show some _ = some o from ho) with ho; subst ho; exact rnO_nr (pthV_nr _)
            | m + 4, ho => simp [obL] at ho
          conv => whnf
          repeat' (first | (refine brd_t (by first | assumption | omega) ?_; conv => whnf) | (refine brd_f (by first | assumption | omega) ?_; conv => whnf) | (refine ask (by first | assumption | omega) ?_; conv => whnf) | (refine fit64 (by omega) ?_; conv => whnf) | (refine fit (by simp only [kmin, kmax]; omega) ?_; conv => whnf) | (refine br_t (by assumption) ?_; conv => whnf) | (refine br_f (by assumption) ?_; conv => whnf) | (refine get_of (by assumption) ?_; conv => whnf) | (refine get_map (by assumption) ?_; conv => whnf) | (refine draw_lex hE ?_ ?_; decide +kernel; conv => whnf) | (refine draw_any hE [⟨2, [(0, none), (2, none), (1, some 0), (3, some 1)], some 4⟩, ⟨0, [(5, none)], none⟩] ?_ ?_; decide +kernel; conv => whnf) | (refine brd (fun h => ?_) (fun h => ?_) <;> conv => whnf) | (refine br (fun h => ?_) (fun h => ?_) <;> conv => whnf) | (refine ret_now hE ?_; conv => whnf) | (intro hlen; conv => whnf) | (refine seg_here ?_; conv => whnf))
          refine next_drop [1, 2, 3, 4, 5, 13, 14, 15] [] (k + 1, (cur ++ [path ++ [(k : Int)]]) ++ fndL P (ch ++ [.mk n a t qs]) (path ++ [(k : Int)]) 0 qs) ⟨hlt, ?_, ?_⟩ (show l.length - (k + 1) < l.length - k by omega) ?_
          · show ((cur ++ [path ++ [(k : Int)]]) ++ fndL P (ch ++ [.mk n a t qs]) (path ++ [(k : Int)]) 0 qs).length ≤ out.length + szL (l.take (k + 1))
            rw [List.length_append]
            have := hcl2; omega
          · show ((cur ++ [path ++ [(k : Int)]]) ++ fndL P (ch ++ [.mk n a t qs]) (path ++ [(k : Int)]) 0 qs) ++ fndL P ch path (k + 1) (l.drop (k + 1)) = _
            rw [← hI]
            simp
          · conv => whnf
            rfl
    · rw [List.drop_eq_nil_of_le (by omega), fndL, List.append_nil] at hI
      conv => whnf
      repeat' (first | (refine brd_t (by first | assumption | omega) ?_; conv => whnf) | (refine brd_f (by first | assumption | omega) ?_; conv => whnf) | (refine ask (by first | assumption | omega) ?_; conv => whnf) | (refine fit64 (by omega) ?_; conv => whnf) | (refine fit (by simp only [kmin, kmax]; omega) ?_; conv => whnf) | (refine br_t (by assumption) ?_; conv => whnf) | (refine br_f (by assumption) ?_; conv => whnf) | (refine get_of (by assumption) ?_; conv => whnf) | (refine get_map (by assumption) ?_; conv => whnf) | (refine draw_lex hE ?_ ?_; decide +kernel; conv => whnf) | (refine draw_any hE [⟨2, [(0, none), (2, none), (1, some 0), (3, some 1)], some 4⟩, ⟨0, [(5, none)], none⟩] ?_ ?_; decide +kernel; conv => whnf) | (refine brd (fun h => ?_) (fun h => ?_) <;> conv => whnf) | (refine br (fun h => ?_) (fun h => ?_) <;> conv => whnf) | (refine ret_now hE ?_; conv => whnf) | (intro hlen; conv => whnf) | (refine seg_here ?_; conv => whnf))
      refine hret_now hE ?_
      conv => whnf
      exact ⟨rfl, rfl, rfl, by rw [hI]; rfl⟩
end Go.Proofs.Ytaapdbcbefnhgaa
