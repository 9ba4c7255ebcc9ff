/- auto.Least, walked. No conditions. -/
import Derived.Test.YtaapdbcbefnhgaaLeastLaw
import Derived.Test.YtaapdbcbefnhgaaFresh
set_option linter.unusedSimpArgs false
set_option linter.unusedVariables false
set_option maxRecDepth 100000
namespace Go.Proofs.Ytaapdbcbefnhgaa
open Go.RowKit

def natV (n : Nat) : V := .int .i64 (n : Int)
def wV (w : List Nat) : V := .lst (w.map natV)
def wI (w : List Nat) : List Int := w.map fun n : Nat => (n : Int)
theorem wV_ints (w : List Nat) : wV w = .lst ((wI w).map (V.int .i64)) := by unfold wV wI; rw [List.map_map]; rfl
open Classical in
/-- What both answer. -/
noncomputable def leastR (T : List (List Int)) (F : List Bool) : V :=
  if mayOk T F = false then .tup [.lst [], .int .i64 4] else if h : ∃ w, Least T F w then .tup [wV h.choose, .int .i64 0] else .tup [.lst [], .int .i64 7]
theorem leastR_bad {T : List (List Int)} {F : List Bool} (h : mayOk T F = false) : leastR T F = .tup [.lst [], .int .i64 4] := by unfold leastR; rw [if_pos h]
theorem leastR_is {T : List (List Int)} {F : List Bool} {w : List Nat} (h : mayOk T F = true) (hw : Least T F w) : leastR T F = .tup [wV w, .int .i64 0] := by
  unfold leastR
  have he : ∃ w, Least T F w := ⟨w, hw⟩
  rw [if_neg (by simp [h]), dif_pos he, least_one he.choose_spec hw]
theorem leastR_none {T : List (List Int)} {F : List Bool} (h : mayOk T F = true) (hw : ∀ v, ¬ Acc T F 0 v) : leastR T F = .tup [.lst [], .int .i64 7] := by
  unfold leastR
  rw [if_neg (by simp [h]), dif_neg]
  rintro ⟨w, hw'⟩
  exact hw w hw'.1
theorem mach_of {T : List (List Int)} {F : List Bool} (h : mayOk T F = true) : Mach T F ∧ T.length ≤ 40 := by
  simp [mayOk] at h
  refine ⟨⟨by omega, h.1.2, fun r hr => ?_⟩, by omega⟩
  have := h.2 r hr
  unfold badRow at this
  simp at this
  refine ⟨by omega, fun x hx => ?_⟩
  have := this.2 x hx
  simp [badState] at this
  omega
def entA (e : Nat × List Nat) : V := .agg [.int .i64 e.1, wV e.2]
theorem nr_ents (l : List (Nat × List Nat)) : nrL (l.map entA) := by
  rw [nrL_mem]
  intro x hx
  obtain ⟨q, _, rfl⟩ := List.mem_map.1 hx
  exact ⟨trivial, trivial, trivial⟩
theorem count_set : ∀ (S : List Bool) (t : Nat), S[t]? = some false → (S.set t true).count false + 1 = S.count false
  | [], t, h => by simp at h
  | b :: S, 0, h => by simp at h; subst h; simp
  | b :: S, t + 1, h => by
    have := count_set S t (by simpa using h)
    cases b <;> simp [List.count_cons] <;> omega
theorem nl_nats : ∀ l : List Nat, nlL (l.map natV) = l.map natV
  | [] => by simp [nlL]
  | a :: l => by simp [nlL, V.nl, natV, nl_nats l]
theorem nr_nats (l : List Nat) : nrL (l.map natV) := by
  rw [nrL_mem]
  intro x hx
  obtain ⟨q, _, rfl⟩ := List.mem_map.1 hx
  trivial
theorem nats_ints (w : List Nat) : (wI w).map (V.int .i64) = w.map natV := by unfold wI; rw [List.map_map]; rfl
set_option maxHeartbeats 16000000 in
theorem auto_least (T : List (List Int)) (F : List Bool) : Fn1 Try.prog 11 [autoV T F] (fun r => r = leastR T F) := by
  have hTm : (T.map ints).length = T.length := by simp
  have hFm : (F.map V.bool).length = F.length := by simp
  have hm := may T F
  refine fn1_nl ?_
  cases hb : mayOk T F with
  | false =>
    rw [hb] at hm
    refine fn1E (T := Try.tt) Try.func11 rfl tt_all follows_all ?_ ?_ fun C hC hE => ?_
    · kernel_rfl
    · exact Nat.le_of_ble_eq_true (by kernel_rfl)
    conv => whnf
    repeat' (first | (refine brd_t (by first | assumption | omega) ?_; conv => whnf) | (refine brd_f (by first | assumption | omega) ?_; conv => whnf) | (refine ask (by first | assumption | omega) ?_; conv => whnf) | (refine fit64 (by omega) ?_; conv => whnf) | (refine fit (by simp only [kmin, kmax]; omega) ?_; conv => whnf) | (refine br_t (by assumption) ?_; conv => whnf) | (refine br_f (by assumption) ?_; conv => whnf) | (refine get_of (by assumption) ?_; conv => whnf) | (refine get_map (by assumption) ?_; conv => whnf) | (refine call_eq (hm) hC hasBody_31 ?_ ?_ ?_; kernel_rfl; kernel_rfl; conv => whnf) | (refine callq_eq (hm) hC hasBody_31 ?_ ?_ ?_; kernel_rfl; kernel_rfl; conv => whnf) | (refine draw_lex hE ?_ ?_; decide +kernel; conv => whnf) | (refine brd (fun h => ?_) (fun h => ?_) <;> conv => whnf) | (refine br (fun h => ?_) (fun h => ?_) <;> conv => whnf) | (refine ret_now hE ?_; conv => whnf) | (intro hlen; conv => whnf))
    exact ⟨rfl, by rw [leastR_bad hb]; rfl⟩
  | true =>
    rw [hb] at hm
    obtain ⟨hM, h40⟩ := mach_of hb
    have hpos := hM.pos
    have hrep : (List.replicate (((T.map ints).length : Nat) : Int).toNat (V.bool false))[0 + Int.toNat 0]? = some (.bool false) := by rw [List.getElem?_replicate, if_pos (by show 0 + 0 < (T.map ints).length; omega)]
    refine fn1E (T := Try.tt) Try.func11 rfl tt_all follows_all ?_ ?_ fun C hC hE => ?_
    · kernel_rfl
    · exact Nat.le_of_ble_eq_true (by kernel_rfl)
    conv => whnf
    repeat' (first | (refine brd_t (by first | assumption | omega) ?_; conv => whnf) | (refine brd_f (by first | assumption | omega) ?_; conv => whnf) | (refine ask (by first | assumption | omega) ?_; conv => whnf) | (refine fit64 (by omega) ?_; conv => whnf) | (refine fit (by simp only [kmin, kmax]; omega) ?_; conv => whnf) | (refine br_t (by assumption) ?_; conv => whnf) | (refine br_f (by assumption) ?_; conv => whnf) | (refine get_of (by assumption) ?_; conv => whnf) | (refine get_map (by assumption) ?_; conv => whnf) | (refine call_eq (hm) hC hasBody_31 ?_ ?_ ?_; kernel_rfl; kernel_rfl; conv => whnf) | (refine callq_eq (hm) hC hasBody_31 ?_ ?_ ?_; kernel_rfl; kernel_rfl; conv => whnf) | (refine ask ⟨?_, ?_, ?_, ?_⟩ ?_; omega; omega; omega; omega; conv => whnf) | (refine get_of hrep ?_; conv => whnf) | (refine draw_lex hE ?_ ?_; decide +kernel; conv => whnf) | (refine brd (fun h => ?_) (fun h => ?_) <;> conv => whnf) | (refine br (fun h => ?_) (fun h => ?_) <;> conv => whnf) | (refine ret_now hE ?_; conv => whnf) | (intro hlen; conv => whnf))
    refine loopE (fun ((pre, Q, S) : List (Nat × List Nat) × List (Nat × List Nat) × List Bool) => ⟨72, [(1, .rp [.lst (T.map ints), .lst (F.map V.bool)]), (4, .sl 1 0 S.length), (5, .sl 2 pre.length Q.length)], [none, some (.row 1 (S.map V.bool)), some (.row 2 ((pre ++ Q).map entA))]⟩)
      (fun (pre, Q, S) => ∃ E p, Bfs T F E p p 0 S ∧ E.drop p = Q ∧ p ≤ E.length) (fun (_, Q, S) => 2 * S.count false + Q.length) ([], [(0, [])], (List.replicate T.length false).set 0 true) hE ?_ ?_ ⟨_, 0, bfs_start hM, rfl, Nat.zero_le _⟩ ?_
    · kernel_rfl
    · refine up_freeze 0 (z := 2) (els := [autoV T F]) rfl ⟨⟨trivial, trivial, trivial⟩, trivial⟩ (up_nl 2 rfl (at_keep [1, 4, 5] ?_))
      conv => whnf
      have e1 : (List.replicate (((T.map ints).length : Nat) : Int).toNat (V.bool false)).set (0 + Int.toNat 0) (V.bool true) = ((List.replicate T.length false).set 0 true).map V.bool := by
        rw [hTm, Int.toNat_natCast, List.map_set, List.map_replicate]; rfl
      rw [e1, frz_nrL _ _ (nr_bools _)]
      show _ = (⟨72, [(1, .rp [.lst (T.map ints), .lst (F.map V.bool)]), (4, .sl 1 0 ((List.replicate T.length false).set 0 true).length), (5, .sl 2 0 1)], [none, some (.row 1 (((List.replicate T.length false).set 0 true).map V.bool)), some (.row 2 [entA (0, [])])]⟩ : ES)
      rw [List.length_set, List.length_replicate, ← hTm]
      rfl
    rintro ⟨pre, Q, S⟩ ⟨E, p, hB, hQ, hp⟩
    have hSl := hB.len
    have hSm : (S.map V.bool).length = S.length := by simp
    cases Q with
    | nil =>
      have hpl : E.length ≤ p := by
        have := congrArg List.length hQ
        simp at this
        omega
      have hno := bfs_none hB hpl
      have h0 : (([] : List (Nat × List Nat)).length : Int) = 0 := rfl
      conv => whnf
      repeat' (first | (refine brd_t (by first | assumption | omega) ?_; conv => whnf) | (refine brd_f (by first | assumption | omega) ?_; conv => whnf) | (refine ask (by first | assumption | omega) ?_; conv => whnf) | (refine fit64 (by omega) ?_; conv => whnf) | (refine fit (by simp only [kmin, kmax]; omega) ?_; conv => whnf) | (refine br_t (by assumption) ?_; conv => whnf) | (refine br_f (by assumption) ?_; conv => whnf) | (refine get_of (by assumption) ?_; conv => whnf) | (refine get_map (by assumption) ?_; conv => whnf) | (refine draw_lex hE ?_ ?_; decide +kernel; conv => whnf) | (refine brd (fun h => ?_) (fun h => ?_) <;> conv => whnf) | (refine br (fun h => ?_) (fun h => ?_) <;> conv => whnf) | (refine ret_now hE ?_; conv => whnf) | (intro hlen; conv => whnf))
      exact ⟨rfl, by rw [leastR_none hb hno]; rfl⟩
    | cons e Q =>
      obtain ⟨s, w⟩ := e
      have he : E[p]? = some (s, w) := by
        have := congrArg (fun l => l[0]?) hQ
        simpa using this
      have hsl : s < T.length := run_lt hM _ _ _ hpos (hB.ent p s w he)
      obtain ⟨b, hbf⟩ : ∃ b, F[s]? = some b := ⟨_, List.getElem?_eq_getElem (by rw [hM.len]; exact hsl)⟩
      have hget : ((pre ++ (s, w) :: Q).map entA)[pre.length + Int.toNat 0]? = some (.agg [.int .i64 (s : Int), .lst (w.map natV)]) := by
        rw [List.getElem?_map, show pre.length + Int.toNat 0 = pre.length from rfl, List.getElem?_append_right (Nat.le_refl _)]; simp; rfl
      obtain ⟨row, hr⟩ : ∃ r, T[s]? = some r := ⟨_, List.getElem?_eq_getElem hsl⟩
      have hrow := hM.row row (List.mem_of_getElem? hr)
      have hrm : (row.map (V.int .i64)).length = row.length := by simp
      have h1 : (((s, w) :: Q).length : Int) = Q.length + 1 := by simp
      have hwl : w.length ≤ 40 := by
        have := hB.wl p s w he
        have := (List.getElem?_eq_some_iff.1 he).1
        have := bfs_len hM hB
        omega
      conv => whnf
      repeat' (first | (refine brd_t (by first | assumption | omega) ?_; conv => whnf) | (refine brd_f (by first | assumption | omega) ?_; conv => whnf) | (refine ask (by first | assumption | omega) ?_; conv => whnf) | (refine fit64 (by omega) ?_; conv => whnf) | (refine fit (by simp only [kmin, kmax]; omega) ?_; conv => whnf) | (refine br_t (by assumption) ?_; conv => whnf) | (refine br_f (by assumption) ?_; conv => whnf) | (refine get_of (by assumption) ?_; conv => whnf) | (refine get_map (by assumption) ?_; conv => whnf) | (refine get_of hget ?_; conv => whnf) | (refine draw_lex hE ?_ ?_; decide +kernel; conv => whnf) | (refine brd (fun h => ?_) (fun h => ?_) <;> conv => whnf) | (refine br (fun h => ?_) (fun h => ?_) <;> conv => whnf) | (refine ret_now hE ?_; conv => whnf) | (intro hlen; conv => whnf))
      · have hL := bfs_found hB he (by rw [hbf]; congr 1)
        refine ⟨rfl, ?_⟩
        rw [leastR_is hb hL]
        show V.tup [.lst (nlL (w.map natV)), _] = _
        rw [nl_nats]; rfl
      have hf : F[s]? ≠ some true := by rw [hbf]; simp_all
      refine loopE (fun ((j, pre, Q, S) : Nat × List (Nat × List Nat) × List (Nat × List Nat) × List Bool) => ⟨72, [(1, .rp [.lst (T.map ints), .lst (F.map V.bool)]), (4, .sl 1 0 S.length), (5, .sl 2 pre.length Q.length), (6, .ptr 0 0 0), (41, ints row), (42, .int .i64 (row.map (V.int .i64)).length), (43, .int .i64 j)], [some (.row 2 [entA (s, w)]), some (.row 1 (S.map V.bool)), some (.row 2 ((pre ++ Q).map entA))]⟩)
        (fun (j, pre', Q', S') => j ≤ row.length ∧ 2 * S'.count false + Q'.length ≤ 2 * S.count false + ((s, w) :: Q).length ∧ ∃ E', Bfs T F E' p (p + 1) j S' ∧ E'.drop p = Q' ∧ E'[p]? = some (s, w)) (fun (j, _) => row.length - j) (0, pre, (s, w) :: Q, S) hE ?_ ?_
        ⟨Nat.zero_le _, Nat.le_refl _, E, bfs_head hB he hf, hQ, he⟩ ?_
      · kernel_rfl
      · exact at_keep [1, 4, 5, 6, 41, 42, 43] rfl
      clear hSl hSm hget hB hQ hp
      rintro ⟨j, pre', Q', S'⟩ ⟨hj, hme, E', hB, hQ, he'⟩
      have hSl := hB.len
      have hSm : (S'.map V.bool).length = S'.length := by simp
      have hpl : p < E'.length := (List.getElem?_eq_some_iff.1 he').1
      have hQl : Q'.length + p = E'.length := by rw [← hQ, List.length_drop]; omega
      by_cases hlt : j < row.length
      · obtain ⟨x, hx⟩ : ∃ x, row[j]? = some x := ⟨_, List.getElem?_eq_getElem hlt⟩
        have hxb := hrow.2 x (List.mem_of_getElem? hx)
        have hst := stp_of hr hx
        by_cases h0 : 0 ≤ x
        · rw [if_pos h0] at hst
          obtain ⟨t, rfl⟩ : ∃ t : Nat, x = (t : Int) := ⟨x.toNat, by omega⟩
          obtain ⟨c, hc⟩ : ∃ c, S'[t]? = some c := ⟨_, List.getElem?_eq_getElem (by omega)⟩
          have hcg : (S'.map V.bool)[0 + Int.toNat (t : Int)]? = some (.bool c) := by rw [List.getElem?_map, Nat.zero_add, Int.toNat_natCast, hc]; rfl
          have hcl := h_clone_int (wI w) (by simp [wI]; omega)
          rw [nats_ints] at hcl
          have hwl' : (wI w).length = w.length := by simp [wI]
          have hqm : ((pre' ++ Q').map entA).length = pre'.length + Q'.length := by simp
          have hwm : (w.map natV).length = w.length := by simp
          have hE := bfs_len hM hB
          conv => whnf
          repeat' (first | (refine brd_t (by first | assumption | omega) ?_; conv => whnf) | (refine brd_f (by first | assumption | omega) ?_; conv => whnf) | (refine ask (by first | assumption | omega) ?_; conv => whnf) | (refine fit64 (by omega) ?_; conv => whnf) | (refine fit (by simp only [kmin, kmax]; omega) ?_; conv => whnf) | (refine br_t (by assumption) ?_; conv => whnf) | (refine br_f (by assumption) ?_; conv => whnf) | (refine get_of (by assumption) ?_; conv => whnf) | (refine get_map (by assumption) ?_; conv => whnf) | (refine get_of hcg ?_; conv => whnf) | (refine call_up (up_new 1 (up_here ?_)); (conv => whnf); refine call_fresh hcl hC hasBody_32 3 rfl ?_ rfl (nr_nats _) ?_; exact rnL_self ⟨trivial, trivial⟩; conv => whnf) | (refine ask (Nat.le_refl 1) ?_; conv => whnf) | (refine ask ⟨?_, ?_, ?_⟩ ?_; (first | omega | (rw [kill_nrL _ (nr_ents _), kill_nrL _ (nr_ents _)]; omega) | (simp; omega)); (show _ + 1 ≤ 9223372036854775807; omega); (show (_ + 1) * _ ≤ 140737488355328; omega); conv => whnf) | (refine draw_lex hE ?_ ?_; decide +kernel; conv => whnf) | (refine brd (fun h => ?_) (fun h => ?_) <;> conv => whnf) | (refine br (fun h => ?_) (fun h => ?_) <;> conv => whnf) | (refine ret_now hE ?_; conv => whnf) | (intro hlen; conv => whnf))
          · refine next_drop [1, 4, 5, 6, 41, 42, 43] [] (j + 1, pre', Q', S') ⟨hlt, hme, E', bfs_skip hB he' (fun t' ht' => ?_), hQ, he'⟩ (show row.length - (j + 1) < row.length - j by omega) rfl
            rw [hst] at ht'
            cases ht'
            rw [Int.toNat_natCast, hc]; congr 1
          · have hcf : c = false := by simp_all
            subst hcf
            have hn : S'[t]? ≠ some true := by rw [hc]; simp
            have hE1 : killL 2 (killL 3 (List.take (wI w).length (List.drop 0 (w.map natV)) ++ List.take 1 (List.drop 0 [V.int .i64 (j : Int)]))) = (w ++ [j]).map natV := by
              rw [List.drop_zero, List.take_of_length_le (by omega), show w.map natV ++ List.take 1 (List.drop 0 [V.int .i64 (j : Int)]) = (w ++ [j]).map natV by rw [List.map_append]; rfl, kill_nrL _ (nr_nats _), kill_nrL _ (nr_nats _)]
            have hel : ((w ++ [j]).map natV).length = w.length + 1 := by simp
            have hE2 : frzL 3 ((w ++ [j]).map natV) [.agg [.int .i64 (t : Int), .sl 3 0 ((wI w).length + (List.take 1 (List.drop 0 [V.int .i64 (j : Int)])).length)]] = [entA (t, w ++ [j])] := by
              rw [frzL_cons, frz_agg, frzL_cons, frz_int, frzL_cons, frz_sl, if_pos rfl, if_pos (by rw [hel]; simp [wI]), frzL_nil]
              show [V.agg [_, V.lst (List.take _ ((w ++ [j]).map natV))]] = _
              rw [List.take_of_length_le (by rw [hel]; simp [wI])]
              rfl
            have e1 : List.drop pre'.length ((pre' ++ Q').map entA) = Q'.map entA := by rw [List.map_append, List.drop_append_of_le_length (by simp), List.drop_eq_nil_of_le (by simp), List.nil_append]
            have e2 : List.take Q'.length (Q'.map entA) = Q'.map entA := List.take_of_length_le (by simp)
            have hE3 : killL 5 (killL 4 (frzL 3 ((w ++ [j]).map natV) (killL 2 (List.take Q'.length (List.drop pre'.length (killL 3 (killL 3 ((pre' ++ Q').map entA)))) ++ List.take 1 (List.drop 0 [.agg [.int .i64 (t : Int), .sl 3 0 ((wI w).length + (List.take 1 (List.drop 0 [V.int .i64 (j : Int)])).length)]]))))) = (Q' ++ [(t, w ++ [j])]).map entA := by
              rw [kill_nrL _ (nr_ents _), kill_nrL _ (nr_ents _), e1, e2, killL_app, kill_nrL _ (nr_ents _), frzL_app, frz_nrL _ _ (nr_ents _)]
              show killL 5 (killL 4 (Q'.map entA ++ frzL 3 _ [.agg [.int .i64 (t : Int), .sl 3 0 ((wI w).length + (List.take 1 (List.drop 0 [V.int .i64 (j : Int)])).length)]])) = _
              rw [hE2, show Q'.map entA ++ [entA (t, w ++ [j])] = (Q' ++ [(t, w ++ [j])]).map entA by rw [List.map_append]; rfl, kill_nrL _ (nr_ents _), kill_nrL _ (nr_ents _)]
            have hE4 : (S'.map V.bool).set (0 + Int.toNat (t : Int)) (.bool true) = (S'.set t true).map V.bool := by rw [Nat.zero_add, Int.toNat_natCast, List.map_set]
            have hE5 : killL 5 (killL 4 (frzL 3 ((w ++ [j]).map natV) (killL 2 (killL 3 (killL 3 ((S'.map V.bool).set (0 + Int.toNat (t : Int)) (.bool true))))))) = (S'.set t true).map V.bool := by
              rw [hE4, kill_nrL _ (nr_bools _), kill_nrL _ (nr_bools _), kill_nrL _ (nr_bools _), frz_nrL _ _ (nr_bools _), kill_nrL _ (nr_bools _), kill_nrL _ (nr_bools _)]
            have hcs := count_set S' t hc
            refine up_freeze 3 (z := 1) (els := (w ++ [j]).map natV) (congrArg (fun x => some (some (Ob.row 1 x))) hE1) (nr_nats _) (next_drop [1, 4, 5, 6, 41, 42, 43] [4, 5] (j + 1, [], Q' ++ [(t, w ++ [j])], S'.set t true)
              ⟨hlt, ?_, E' ++ [(t, w ++ [j])], bfs_push hM hB he' hst hn, ?_, get_old he'⟩ (show row.length - (j + 1) < row.length - j by omega) ?_)
            · rw [List.length_append, List.length_singleton]; omega
            · rw [List.drop_append_of_le_length (by omega), hQ]
            · conv => whnf
              rw [hE3, hE5]
              show _ = (⟨72, [(1, .rp [.lst (T.map ints), .lst (F.map V.bool)]), (4, .sl 1 0 (S'.set t true).length), (5, .sl 2 0 (Q' ++ [(t, w ++ [j])]).length), (6, .ptr 0 0 0), (41, ints row), (42, .int .i64 (row.map (V.int .i64)).length), (43, .int .i64 ((j + 1 : Nat) : Int))], [some (.row 2 [entA (s, w)]), some (.row 1 ((S'.set t true).map V.bool)), some (.row 2 ((Q' ++ [(t, w ++ [j])]).map entA))]⟩ : ES)
              rw [List.length_set, List.length_append]
              rfl
        · rw [if_neg h0] at hst
          conv => whnf
          repeat' (first | (refine brd_t (by first | assumption | omega) ?_; conv => whnf) | (refine brd_f (by first | assumption | omega) ?_; conv => whnf) | (refine ask (by first | assumption | omega) ?_; conv => whnf) | (refine fit64 (by omega) ?_; conv => whnf) | (refine fit (by simp only [kmin, kmax]; omega) ?_; conv => whnf) | (refine br_t (by assumption) ?_; conv => whnf) | (refine br_f (by assumption) ?_; conv => whnf) | (refine get_of (by assumption) ?_; conv => whnf) | (refine get_map (by assumption) ?_; conv => whnf) | (refine draw_lex hE ?_ ?_; decide +kernel; conv => whnf) | (refine brd (fun h => ?_) (fun h => ?_) <;> conv => whnf) | (refine br (fun h => ?_) (fun h => ?_) <;> conv => whnf) | (refine ret_now hE ?_; conv => whnf) | (intro hlen; conv => whnf))
          exact next_drop [1, 4, 5, 6, 41, 42, 43] [] (j + 1, pre', Q', S') ⟨hlt, hme, E', bfs_skip hB he' (fun t' ht' => by rw [hst] at ht'; cases ht'), hQ, he'⟩ (show row.length - (j + 1) < row.length - j by omega) rfl
      · have hj8 : j = 8 := by omega
        subst hj8
        have hB2 := bfs_next hB hM
        have hQc : Q' ≠ [] := fun e => by rw [e] at hQl; simp at hQl; omega
        obtain ⟨q0, Q2, rfl⟩ := List.exists_cons_of_ne_nil hQc
        have hq1 : ((q0 :: Q2).length : Int) = Q2.length + 1 := by simp
        have hqm : ((pre' ++ q0 :: Q2).map entA).length = pre'.length + Q2.length + 1 := by simp; omega
        conv => whnf
        repeat' (first | (refine brd_t (by first | assumption | omega) ?_; conv => whnf) | (refine brd_f (by first | assumption | omega) ?_; conv => whnf) | (refine ask (by first | assumption | omega) ?_; conv => whnf) | (refine fit64 (by omega) ?_; conv => whnf) | (refine fit (by simp only [kmin, kmax]; omega) ?_; conv => whnf) | (refine br_t (by assumption) ?_; conv => whnf) | (refine br_f (by assumption) ?_; conv => whnf) | (refine get_of (by assumption) ?_; conv => whnf) | (refine get_map (by assumption) ?_; conv => whnf) | (refine ask (by rw [Int.toNat_ofNat]; omega) ?_; conv => whnf) | (refine ask (by decide) ?_; conv => whnf) | (refine draw_lex hE ?_ ?_; decide +kernel; conv => whnf) | (refine brd (fun h => ?_) (fun h => ?_) <;> conv => whnf) | (refine br (fun h => ?_) (fun h => ?_) <;> conv => whnf) | (refine ret_now hE ?_; conv => whnf) | (intro hlen; conv => whnf))
        refine next_drop [1, 4, 5] [0] (pre' ++ [q0], Q2, S') ⟨E', p + 1, hB2, ?_, by omega⟩ ?_ ?_
        · have := congrArg List.tail hQ
          rw [List.tail_drop] at this
          exact this
        · show 2 * S'.count false + Q2.length < 2 * S.count false + ((s, w) :: Q).length
          rw [List.length_cons] at hme
          omega
        · conv => whnf
          show (⟨72, [(1, .rp [.lst (T.map ints), .lst (F.map V.bool)]), (4, .sl 1 0 S'.length), (5, .sl 2 (pre'.length + 1) Q2.length)], [none, some (.row 1 (killL 0 (S'.map V.bool))), some (.row 2 (killL 0 ((pre' ++ q0 :: Q2).map entA)))]⟩ : ES) = (⟨72, [(1, .rp [.lst (T.map ints), .lst (F.map V.bool)]), (4, .sl 1 0 S'.length), (5, .sl 2 (pre' ++ [q0]).length Q2.length)], [none, some (.row 1 (S'.map V.bool)), some (.row 2 (((pre' ++ [q0]) ++ Q2).map entA))]⟩ : ES)
          rw [kill_nrL _ (nr_bools _), kill_nrL _ (nr_ents _), List.length_append, List.append_assoc]
          rfl
end Go.Proofs.Ytaapdbcbefnhgaa
