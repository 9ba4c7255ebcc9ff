/- The document's AutoLeast, walked. No conditions. -/
import Derived.Test.YtaapdbcbefnhgaaLeast
set_option linter.unusedSimpArgs false
set_option linter.unusedVariables false
set_option maxRecDepth 100000
namespace Go.Proofs.Ytaapdbcbefnhgaa
open Go.RowKit

theorem min_is (a b : Int) : minI a b = min a b := by unfold minI; split <;> omega
theorem set_i64 (A : List Int) (i : Nat) (v : Int) : (A.map (V.int .i64)).set (0 + i) (.int .i64 v) = (A.set i v).map (V.int .i64) := by rw [Nat.zero_add, List.map_set]
set_option maxHeartbeats 16000000 in
theorem doc_least (T : List (List Int)) (F : List Bool) : Fn1 Try.prog 12 [autoV T F] (fun r => r = leastR T F) := by
  have hTm : (T.map ints).length = T.length := by simp
  have hFm : (F.map V.bool).length = F.length := by simp
  have hm := auto_may T F
  refine fn1_nl ?_
  cases hb : mayOk T F with
  | false =>
    rw [hb] at hm
    refine fn1E (T := Try.tt) Try.func12 rfl tt_all follows_all ?_ ?_ fun C hC hE => ?_
    · kernel_rfl
    · exact Nat.le_of_ble_eq_true (by kernel_rfl)
    conv => whnf
    repeat' (first | (refine brd_t (by first | assumption | omega) ?_; conv => whnf) | (refine brd_f (by first | assumption | omega) ?_; conv => whnf) | (refine ask (by first | assumption | omega) ?_; conv => whnf) | (refine fit64 (by omega) ?_; conv => whnf) | (refine fit (by simp only [kmin, kmax]; omega) ?_; conv => whnf) | (refine br_t (by assumption) ?_; conv => whnf) | (refine br_f (by assumption) ?_; conv => whnf) | (refine get_of (by assumption) ?_; conv => whnf) | (refine get_map (by assumption) ?_; conv => whnf) | (refine call_eq (hm) hC hasBody_33 ?_ ?_ ?_; kernel_rfl; kernel_rfl; conv => whnf) | (refine callq_eq (hm) hC hasBody_33 ?_ ?_ ?_; kernel_rfl; kernel_rfl; conv => whnf) | (refine draw_lex hE ?_ ?_; decide +kernel; conv => whnf) | (refine draw_any hE [⟨0, [(0, none), (1, none), (2, none), (3, none), (4, none), (5, none), (6, none), (7, none), (8, none), (9, none), (10, none), (11, none), (12, none)], some 13⟩] ?_ ?_; decide +kernel; conv => whnf) | (refine draw_any hE [⟨0, [(0, none), (1, none), (2, none), (3, none), (4, none), (5, none), (6, none), (7, none), (8, none), (9, none), (10, none), (11, none), (12, none), (13, none)], none⟩] ?_ ?_; decide +kernel; conv => whnf) | (refine brd (fun h => ?_) (fun h => ?_) <;> conv => whnf) | (refine br (fun h => ?_) (fun h => ?_) <;> conv => whnf) | (refine ret_now hE ?_; conv => whnf) | (intro hlen; conv => whnf))
    exact ⟨rfl, by rw [leastR_bad hb]; rfl⟩
  | true =>
    rw [hb] at hm
    obtain ⟨hM, h40⟩ := mach_of hb
    have hpos := hM.pos
    have hFl := hM.len
    refine fn1E (T := Try.tt) Try.func12 rfl tt_all follows_all ?_ ?_ fun C hC hE => ?_
    · kernel_rfl
    · exact Nat.le_of_ble_eq_true (by kernel_rfl)
    conv => whnf
    repeat' (first | (refine brd_t (by first | assumption | omega) ?_; conv => whnf) | (refine brd_f (by first | assumption | omega) ?_; conv => whnf) | (refine ask (by first | assumption | omega) ?_; conv => whnf) | (refine fit64 (by omega) ?_; conv => whnf) | (refine fit (by simp only [kmin, kmax]; omega) ?_; conv => whnf) | (refine br_t (by assumption) ?_; conv => whnf) | (refine br_f (by assumption) ?_; conv => whnf) | (refine get_of (by assumption) ?_; conv => whnf) | (refine get_map (by assumption) ?_; conv => whnf) | (refine call_eq (hm) hC hasBody_33 ?_ ?_ ?_; kernel_rfl; kernel_rfl; conv => whnf) | (refine callq_eq (hm) hC hasBody_33 ?_ ?_ ?_; kernel_rfl; kernel_rfl; conv => whnf) | (refine ask ⟨?_, ?_, ?_, ?_⟩ ?_; omega; omega; omega; omega; conv => whnf) | (refine draw_lex hE ?_ ?_; decide +kernel; conv => whnf) | (refine draw_any hE [⟨0, [(0, none), (1, none), (2, none), (3, none), (4, none), (5, none), (6, none), (7, none), (8, none), (9, none), (10, none), (11, none), (12, none)], some 13⟩] ?_ ?_; decide +kernel; conv => whnf) | (refine draw_any hE [⟨0, [(0, none), (1, none), (2, none), (3, none), (4, none), (5, none), (6, none), (7, none), (8, none), (9, none), (10, none), (11, none), (12, none), (13, none)], none⟩] ?_ ?_; decide +kernel; conv => whnf) | (refine brd (fun h => ?_) (fun h => ?_) <;> conv => whnf) | (refine br (fun h => ?_) (fun h => ?_) <;> conv => whnf) | (refine ret_now hE ?_; conv => whnf) | (intro hlen; conv => whnf))
    refine loopE (fun ((k, A) : Nat × List Int) => ⟨116, [(1, .rp [.lst (T.map ints), .lst (F.map V.bool)]), (4, .sl 1 0 A.length), (23, .lst (F.map V.bool)), (24, .int .i64 (F.map V.bool).length), (25, .int .i64 k)], [none, some (.row 1 (A.map (V.int .i64)))]⟩)
      (fun (k, A) => k ≤ F.length ∧ A.length = T.length ∧ ∀ i < k, A[i]? = (away0 F)[i]?) (fun (k, _) => F.length - k) (0, List.replicate T.length 0) hE ?_ ?_ ⟨Nat.zero_le _, by simp, fun i hi => by omega⟩ ?_
    · kernel_rfl
    · refine up_freeze 0 (z := 2) (els := [autoV T F]) rfl ⟨⟨trivial, trivial, trivial⟩, trivial⟩ (at_keep [1, 4, 23, 24, 25] ?_)
      conv => whnf
      have e1 : List.replicate (((T.map ints).length : Nat) : Int).toNat (V.int .i64 0) = (List.replicate T.length 0).map (V.int .i64) := by rw [hTm, Int.toNat_natCast, List.map_replicate]
      rw [e1, frz_nrL _ _ (nr_i64 _)]
      show _ = (⟨116, [(1, .rp [.lst (T.map ints), .lst (F.map V.bool)]), (4, .sl 1 0 (List.replicate T.length 0 : List Int).length), (23, .lst (F.map V.bool)), (24, .int .i64 (F.map V.bool).length), (25, .int .i64 0)], [none, some (.row 1 ((List.replicate T.length 0 : List Int).map (V.int .i64)))]⟩ : ES)
      rw [List.length_replicate, ← hTm]
      rfl
    rintro ⟨k, A⟩ ⟨hk, hA, hAi⟩
    have hAm : (A.map (V.int .i64)).length = A.length := by simp
    by_cases hlt : k < F.length
    · obtain ⟨b, hbf⟩ : ∃ b, F[k]? = some b := ⟨_, List.getElem?_eq_getElem hlt⟩
      obtain ⟨a, ha⟩ : ∃ a, A[k]? = some a := ⟨_, List.getElem?_eq_getElem (by omega)⟩
      have ha0 : (A.map (V.int .i64))[0 + Int.toNat (k : Int)]? = some (.int .i64 a) := by rw [List.getElem?_map, Nat.zero_add, Int.toNat_natCast, ha]; rfl
      have ha1 : ((A.map (V.int .i64)).set (0 + Int.toNat (k : Int)) (.int .i64 1000))[0 + Int.toNat (k : Int)]? = some (.int .i64 1000) := List.getElem?_set_self (List.getElem?_eq_some_iff.1 ha0).1
      have hnx : ∀ v : Int, (away0 F)[k]? = some v → ∀ i < k + 1, (A.set k v)[i]? = (away0 F)[i]? := fun v hv i hi => by
        by_cases e : i = k
        · subst e; rw [List.getElem?_set_self (by omega), hv]
        · rw [List.getElem?_set_ne (Ne.symm e)]; exact hAi i (by omega)
      have haw := away0_at k b hbf
      conv => whnf
      repeat' (first | (refine brd_t (by first | assumption | omega) ?_; conv => whnf) | (refine brd_f (by first | assumption | omega) ?_; conv => whnf) | (refine ask (by first | assumption | omega) ?_; conv => whnf) | (refine fit64 (by omega) ?_; conv => whnf) | (refine fit (by simp only [kmin, kmax]; omega) ?_; conv => whnf) | (refine br_t (by assumption) ?_; conv => whnf) | (refine br_f (by assumption) ?_; conv => whnf) | (refine get_of (by assumption) ?_; conv => whnf) | (refine get_map (by assumption) ?_; conv => whnf) | (refine get_of ha0 ?_; conv => whnf) | (refine get_of ha1 ?_; conv => whnf) | (refine draw_lex hE ?_ ?_; decide +kernel; conv => whnf) | (refine draw_any hE [⟨0, [(0, none), (1, none), (2, none), (3, none), (4, none), (5, none), (6, none), (7, none), (8, none), (9, none), (10, none), (11, none), (12, none)], some 13⟩] ?_ ?_; decide +kernel; conv => whnf) | (refine draw_any hE [⟨0, [(0, none), (1, none), (2, none), (3, none), (4, none), (5, none), (6, none), (7, none), (8, none), (9, none), (10, none), (11, none), (12, none), (13, none)], none⟩] ?_ ?_; decide +kernel; conv => whnf) | (refine brd (fun h => ?_) (fun h => ?_) <;> conv => whnf) | (refine br (fun h => ?_) (fun h => ?_) <;> conv => whnf) | (refine ret_now hE ?_; conv => whnf) | (intro hlen; conv => whnf))
      · refine next_keep [1, 4, 23, 24, 25] (k + 1, A.set k 0) ⟨hlt, by simp [hA], hnx 0 (by rw [haw]; simp_all)⟩ (show F.length - (k + 1) < F.length - k by omega) ?_
        conv => whnf
        show (⟨116, [(1, .rp [.lst (T.map ints), .lst (F.map V.bool)]), (4, .sl 1 0 A.length), (23, .lst (F.map V.bool)), (24, .int .i64 (F.map V.bool).length), (25, .int .i64 ((k : Int) + 1))], [none, some (.row 1 (((A.map (V.int .i64)).set (0 + Int.toNat (k : Int)) (.int .i64 1000)).set (0 + Int.toNat (k : Int)) (.int .i64 0)))]⟩ : ES) = (⟨116, [(1, .rp [.lst (T.map ints), .lst (F.map V.bool)]), (4, .sl 1 0 (A.set k 0).length), (23, .lst (F.map V.bool)), (24, .int .i64 (F.map V.bool).length), (25, .int .i64 ((k + 1 : Nat) : Int))], [none, some (.row 1 ((A.set k 0).map (V.int .i64)))]⟩ : ES)
        rw [List.set_set, Int.toNat_natCast, set_i64, List.length_set]
        rfl
      · refine next_keep [1, 4, 23, 24, 25] (k + 1, A.set k 1000) ⟨hlt, by simp [hA], hnx 1000 (by rw [haw]; simp_all)⟩ (show F.length - (k + 1) < F.length - k by omega) ?_
        conv => whnf
        show (⟨116, [(1, .rp [.lst (T.map ints), .lst (F.map V.bool)]), (4, .sl 1 0 A.length), (23, .lst (F.map V.bool)), (24, .int .i64 (F.map V.bool).length), (25, .int .i64 ((k : Int) + 1))], [none, some (.row 1 ((A.map (V.int .i64)).set (0 + Int.toNat (k : Int)) (.int .i64 1000)))]⟩ : ES) = (⟨116, [(1, .rp [.lst (T.map ints), .lst (F.map V.bool)]), (4, .sl 1 0 (A.set k 1000).length), (23, .lst (F.map V.bool)), (24, .int .i64 (F.map V.bool).length), (25, .int .i64 ((k + 1 : Nat) : Int))], [none, some (.row 1 ((A.set k 1000).map (V.int .i64)))]⟩ : ES)
        rw [Int.toNat_natCast, set_i64, List.length_set]
        rfl
    have hkF : k = F.length := by omega
    have hA0 : A = away0 F := by
      apply List.ext_getElem?
      intro i
      by_cases hi : i < k
      · exact hAi i hi
      · rw [List.getElem?_eq_none (by omega), List.getElem?_eq_none (by simp [away0]; omega)]
    clear hAi hAm hk hlt
    subst hA0
    conv => whnf
    repeat' (first | (refine brd_t (by first | assumption | omega) ?_; conv => whnf) | (refine brd_f (by first | assumption | omega) ?_; conv => whnf) | (refine ask (by first | assumption | omega) ?_; conv => whnf) | (refine fit64 (by omega) ?_; conv => whnf) | (refine fit (by simp only [kmin, kmax]; omega) ?_; conv => whnf) | (refine br_t (by assumption) ?_; conv => whnf) | (refine br_f (by assumption) ?_; conv => whnf) | (refine get_of (by assumption) ?_; conv => whnf) | (refine get_map (by assumption) ?_; conv => whnf) | (refine draw_lex hE ?_ ?_; decide +kernel; conv => whnf) | (refine draw_any hE [⟨0, [(0, none), (1, none), (2, none), (3, none), (4, none), (5, none), (6, none), (7, none), (8, none), (9, none), (10, none), (11, none), (12, none)], some 13⟩] ?_ ?_; decide +kernel; conv => whnf) | (refine draw_any hE [⟨0, [(0, none), (1, none), (2, none), (3, none), (4, none), (5, none), (6, none), (7, none), (8, none), (9, none), (10, none), (11, none), (12, none), (13, none)], none⟩] ?_ ?_; decide +kernel; conv => whnf) | (refine brd (fun h => ?_) (fun h => ?_) <;> conv => whnf) | (refine br (fun h => ?_) (fun h => ?_) <;> conv => whnf) | (refine ret_now hE ?_; conv => whnf) | (intro hlen; conv => whnf))
    refine loopE (fun ((r, A) : Nat × List Int) => ⟨116, [(1, .rp [.lst (T.map ints), .lst (F.map V.bool)]), (4, .sl 1 0 A.length), (40, .int .i64 (T.map ints).length), (41, .int .i64 r)], [none, some (.row 1 (A.map (V.int .i64)))]⟩)
      (fun (r, A) => r ≤ T.length ∧ A.length = T.length ∧ Snd T F A ∧ ∀ i, Cmp T F A r i) (fun (r, _) => T.length - r) (0, away0 F) hE ?_ ?_ ⟨Nat.zero_le _, hA, snd0, cmp0⟩ ?_
    · kernel_rfl
    · exact at_keep [1, 4, 40, 41] rfl
    rintro ⟨r, A⟩ ⟨hr, hA, hS, hCm⟩
    have hAm : (A.map (V.int .i64)).length = A.length := by simp
    by_cases hlt : r < T.length
    · conv => whnf
      repeat' (first | (refine brd_t (by first | assumption | omega) ?_; conv => whnf) | (refine brd_f (by first | assumption | omega) ?_; conv => whnf) | (refine ask (by first | assumption | omega) ?_; conv => whnf) | (refine fit64 (by omega) ?_; conv => whnf) | (refine fit (by simp only [kmin, kmax]; omega) ?_; conv => whnf) | (refine br_t (by assumption) ?_; conv => whnf) | (refine br_f (by assumption) ?_; conv => whnf) | (refine get_of (by assumption) ?_; conv => whnf) | (refine get_map (by assumption) ?_; conv => whnf) | (refine draw_lex hE ?_ ?_; decide +kernel; conv => whnf) | (refine draw_any hE [⟨0, [(0, none), (1, none), (2, none), (3, none), (4, none), (5, none), (6, none), (7, none), (8, none), (9, none), (10, none), (11, none), (12, none)], some 13⟩] ?_ ?_; decide +kernel; conv => whnf) | (refine draw_any hE [⟨0, [(0, none), (1, none), (2, none), (3, none), (4, none), (5, none), (6, none), (7, none), (8, none), (9, none), (10, none), (11, none), (12, none), (13, none)], none⟩] ?_ ?_; decide +kernel; conv => whnf) | (refine brd (fun h => ?_) (fun h => ?_) <;> conv => whnf) | (refine br (fun h => ?_) (fun h => ?_) <;> conv => whnf) | (refine ret_now hE ?_; conv => whnf) | (intro hlen; conv => whnf))
      refine loopE (fun ((i, A) : Nat × List Int) => ⟨116, [(1, .rp [.lst (T.map ints), .lst (F.map V.bool)]), (4, .sl 1 0 A.length), (40, .int .i64 (T.map ints).length), (41, .int .i64 r), (44, .lst (T.map ints)), (45, .int .i64 (T.map ints).length), (46, .int .i64 i)], [none, some (.row 1 (A.map (V.int .i64)))]⟩)
        (fun (i, A) => i ≤ T.length ∧ A.length = T.length ∧ Snd T F A ∧ (∀ i, Cmp T F A r i) ∧ ∀ i' < i, Cmp T F A (r + 1) i') (fun (i, _) => T.length - i) (0, A) hE ?_ ?_ ⟨Nat.zero_le _, hA, hS, hCm, fun i' hi' => by omega⟩ ?_
      · kernel_rfl
      · exact at_keep [1, 4, 40, 41, 44, 45, 46] rfl
      clear hA hS hCm hAm
      rintro ⟨i, A⟩ ⟨hi, hA, hS, hCm, hCi⟩
      have hAm : (A.map (V.int .i64)).length = A.length := by simp
      by_cases hil : i < T.length
      · obtain ⟨row, hrw⟩ : ∃ x, T[i]? = some x := ⟨_, List.getElem?_eq_getElem hil⟩
        have hrow := hM.row row (List.mem_of_getElem? hrw)
        have hrm : (row.map (V.int .i64)).length = row.length := by simp
        conv => whnf
        repeat' (first | (refine brd_t (by first | assumption | omega) ?_; conv => whnf) | (refine brd_f (by first | assumption | omega) ?_; conv => whnf) | (refine ask (by first | assumption | omega) ?_; conv => whnf) | (refine fit64 (by omega) ?_; conv => whnf) | (refine fit (by simp only [kmin, kmax]; omega) ?_; conv => whnf) | (refine br_t (by assumption) ?_; conv => whnf) | (refine br_f (by assumption) ?_; conv => whnf) | (refine get_of (by assumption) ?_; conv => whnf) | (refine get_map (by assumption) ?_; conv => whnf) | (refine draw_lex hE ?_ ?_; decide +kernel; conv => whnf) | (refine draw_any hE [⟨0, [(0, none), (1, none), (2, none), (3, none), (4, none), (5, none), (6, none), (7, none), (8, none), (9, none), (10, none), (11, none), (12, none)], some 13⟩] ?_ ?_; decide +kernel; conv => whnf) | (refine draw_any hE [⟨0, [(0, none), (1, none), (2, none), (3, none), (4, none), (5, none), (6, none), (7, none), (8, none), (9, none), (10, none), (11, none), (12, none), (13, none)], none⟩] ?_ ?_; decide +kernel; conv => whnf) | (refine brd (fun h => ?_) (fun h => ?_) <;> conv => whnf) | (refine br (fun h => ?_) (fun h => ?_) <;> conv => whnf) | (refine ret_now hE ?_; conv => whnf) | (intro hlen; conv => whnf))
        refine loopE (fun ((j, A) : Nat × List Int) => ⟨116, [(1, .rp [.lst (T.map ints), .lst (F.map V.bool)]), (4, .sl 1 0 A.length), (7, .int .i64 i), (40, .int .i64 (T.map ints).length), (41, .int .i64 r), (44, .lst (T.map ints)), (45, .int .i64 (T.map ints).length), (46, .int .i64 i), (51, ints row), (52, .int .i64 (row.map (V.int .i64)).length), (53, .int .i64 j)], [none, some (.row 1 (A.map (V.int .i64)))]⟩)
          (fun (j, A) => j ≤ row.length ∧ A.length = T.length ∧ Snd T F A ∧ (∀ i, Cmp T F A r i) ∧ (∀ i' < i, Cmp T F A (r + 1) i') ∧ CmpR T F A r i j) (fun (j, _) => row.length - j) (0, A) hE ?_ ?_ ⟨Nat.zero_le _, hA, hS, hCm, hCi, fun n w hn => by omega⟩ ?_
        · kernel_rfl
        · exact at_keep [1, 4, 7, 40, 41, 44, 45, 46, 51, 52, 53] rfl
        clear hA hS hCm hAm hCi
        rintro ⟨j, A⟩ ⟨hj, hA, hS, hCm, hCi, hCr⟩
        have hAm : (A.map (V.int .i64)).length = A.length := by simp
        by_cases hjl : j < row.length
        · obtain ⟨x, hx⟩ : ∃ x, row[j]? = some x := ⟨_, List.getElem?_eq_getElem hjl⟩
          have hxb := hrow.2 x (List.mem_of_getElem? hx)
          have hst := stp_of hrw hx
          by_cases h0 : 0 ≤ x
          · rw [if_pos h0] at hst
            obtain ⟨t, rfl⟩ : ∃ t : Nat, x = (t : Int) := ⟨x.toNat, by omega⟩
            rw [Int.toNat_natCast] at hst
            obtain ⟨a, ha⟩ : ∃ a, A[i]? = some a := ⟨_, List.getElem?_eq_getElem (by omega)⟩
            obtain ⟨c, hc⟩ : ∃ c, A[t]? = some c := ⟨_, List.getElem?_eq_getElem (by omega)⟩
            have ga : (A.map (V.int .i64))[0 + Int.toNat (i : Int)]? = some (.int .i64 a) := by rw [List.getElem?_map, Nat.zero_add, Int.toNat_natCast, ha]; rfl
            have gc : (A.map (V.int .i64))[0 + Int.toNat (t : Int)]? = some (.int .i64 c) := by rw [List.getElem?_map, Nat.zero_add, Int.toNat_natCast, hc]; rfl
            have hcb := (hS t c hc).2.1
            have hcb0 := (hS t c hc).1
            have hlow := set_lower (b := min a (c + 1)) ha (by omega)
            conv => whnf
            repeat' (first | (refine brd_t (by first | assumption | omega) ?_; conv => whnf) | (refine brd_f (by first | assumption | omega) ?_; conv => whnf) | (refine ask (by first | assumption | omega) ?_; conv => whnf) | (refine fit64 (by omega) ?_; conv => whnf) | (refine fit (by simp only [kmin, kmax]; omega) ?_; conv => whnf) | (refine br_t (by assumption) ?_; conv => whnf) | (refine br_f (by assumption) ?_; conv => whnf) | (refine get_of (by assumption) ?_; conv => whnf) | (refine get_map (by assumption) ?_; conv => whnf) | (refine get_of ga ?_; conv => whnf) | (refine get_of gc ?_; conv => whnf) | (refine draw_lex hE ?_ ?_; decide +kernel; conv => whnf) | (refine draw_any hE [⟨0, [(0, none), (1, none), (2, none), (3, none), (4, none), (5, none), (6, none), (7, none), (8, none), (9, none), (10, none), (11, none), (12, none)], some 13⟩] ?_ ?_; decide +kernel; conv => whnf) | (refine draw_any hE [⟨0, [(0, none), (1, none), (2, none), (3, none), (4, none), (5, none), (6, none), (7, none), (8, none), (9, none), (10, none), (11, none), (12, none), (13, none)], none⟩] ?_ ?_; decide +kernel; conv => whnf) | (refine brd (fun h => ?_) (fun h => ?_) <;> conv => whnf) | (refine br (fun h => ?_) (fun h => ?_) <;> conv => whnf) | (refine ret_now hE ?_; conv => whnf) | (intro hlen; conv => whnf))
            refine next_keep [1, 4, 7, 40, 41, 44, 45, 46, 51, 52, 53] (j + 1, A.set i (min a (c + 1))) ⟨hjl, by simp [hA], snd_step hS hst ha hc, fun i' => cmp_lower hlow (hCm i'), fun i' hi' => cmp_lower hlow (hCi i' hi'), cmpR_step hCr hst (hCm t) ha hc⟩ (show row.length - (j + 1) < row.length - j by omega) ?_
            conv => whnf
            simp only [min_is, Int.toNat_natCast, set_i64, List.length_set]
            rfl
          · rw [if_neg h0] at hst
            conv => whnf
            repeat' (first | (refine brd_t (by first | assumption | omega) ?_; conv => whnf) | (refine brd_f (by first | assumption | omega) ?_; conv => whnf) | (refine ask (by first | assumption | omega) ?_; conv => whnf) | (refine fit64 (by omega) ?_; conv => whnf) | (refine fit (by simp only [kmin, kmax]; omega) ?_; conv => whnf) | (refine br_t (by assumption) ?_; conv => whnf) | (refine br_f (by assumption) ?_; conv => whnf) | (refine get_of (by assumption) ?_; conv => whnf) | (refine get_map (by assumption) ?_; conv => whnf) | (refine draw_lex hE ?_ ?_; decide +kernel; conv => whnf) | (refine draw_any hE [⟨0, [(0, none), (1, none), (2, none), (3, none), (4, none), (5, none), (6, none), (7, none), (8, none), (9, none), (10, none), (11, none), (12, none)], some 13⟩] ?_ ?_; decide +kernel; conv => whnf) | (refine draw_any hE [⟨0, [(0, none), (1, none), (2, none), (3, none), (4, none), (5, none), (6, none), (7, none), (8, none), (9, none), (10, none), (11, none), (12, none), (13, none)], none⟩] ?_ ?_; decide +kernel; conv => whnf) | (refine brd (fun h => ?_) (fun h => ?_) <;> conv => whnf) | (refine br (fun h => ?_) (fun h => ?_) <;> conv => whnf) | (refine ret_now hE ?_; conv => whnf) | (intro hlen; conv => whnf))
            exact next_keep [1, 4, 7, 40, 41, 44, 45, 46, 51, 52, 53] (j + 1, A) ⟨hjl, hA, hS, hCm, hCi, cmpR_none hCr hst⟩ (show row.length - (j + 1) < row.length - j by omega) rfl
        · have hj8 : j = 8 := by omega
          subst hj8
          conv => whnf
          repeat' (first | (refine brd_t (by first | assumption | omega) ?_; conv => whnf) | (refine brd_f (by first | assumption | omega) ?_; conv => whnf) | (refine ask (by first | assumption | omega) ?_; conv => whnf) | (refine fit64 (by omega) ?_; conv => whnf) | (refine fit (by simp only [kmin, kmax]; omega) ?_; conv => whnf) | (refine br_t (by assumption) ?_; conv => whnf) | (refine br_f (by assumption) ?_; conv => whnf) | (refine get_of (by assumption) ?_; conv => whnf) | (refine get_map (by assumption) ?_; conv => whnf) | (refine draw_lex hE ?_ ?_; decide +kernel; conv => whnf) | (refine draw_any hE [⟨0, [(0, none), (1, none), (2, none), (3, none), (4, none), (5, none), (6, none), (7, none), (8, none), (9, none), (10, none), (11, none), (12, none)], some 13⟩] ?_ ?_; decide +kernel; conv => whnf) | (refine draw_any hE [⟨0, [(0, none), (1, none), (2, none), (3, none), (4, none), (5, none), (6, none), (7, none), (8, none), (9, none), (10, none), (11, none), (12, none), (13, none)], none⟩] ?_ ?_; decide +kernel; conv => whnf) | (refine brd (fun h => ?_) (fun h => ?_) <;> conv => whnf) | (refine br (fun h => ?_) (fun h => ?_) <;> conv => whnf) | (refine ret_now hE ?_; conv => whnf) | (intro hlen; conv => whnf))
          refine next_keep [1, 4, 40, 41, 44, 45, 46] (i + 1, A) ⟨hil, hA, hS, hCm, fun i' hi' => ?_⟩ (show T.length - (i + 1) < T.length - i by omega) rfl
          by_cases e : i' = i
          · subst e; exact cmp_of_row hM (hCm i') hCr
          · exact hCi i' (by omega)
      · conv => whnf
        repeat' (first | (refine brd_t (by first | assumption | omega) ?_; conv => whnf) | (refine brd_f (by first | assumption | omega) ?_; conv => whnf) | (refine ask (by first | assumption | omega) ?_; conv => whnf) | (refine fit64 (by omega) ?_; conv => whnf) | (refine fit (by simp only [kmin, kmax]; omega) ?_; conv => whnf) | (refine br_t (by assumption) ?_; conv => whnf) | (refine br_f (by assumption) ?_; conv => whnf) | (refine get_of (by assumption) ?_; conv => whnf) | (refine get_map (by assumption) ?_; conv => whnf) | (refine draw_lex hE ?_ ?_; decide +kernel; conv => whnf) | (refine draw_any hE [⟨0, [(0, none), (1, none), (2, none), (3, none), (4, none), (5, none), (6, none), (7, none), (8, none), (9, none), (10, none), (11, none), (12, none)], some 13⟩] ?_ ?_; decide +kernel; conv => whnf) | (refine draw_any hE [⟨0, [(0, none), (1, none), (2, none), (3, none), (4, none), (5, none), (6, none), (7, none), (8, none), (9, none), (10, none), (11, none), (12, none), (13, none)], none⟩] ?_ ?_; decide +kernel; conv => whnf) | (refine brd (fun h => ?_) (fun h => ?_) <;> conv => whnf) | (refine br (fun h => ?_) (fun h => ?_) <;> conv => whnf) | (refine ret_now hE ?_; conv => whnf) | (intro hlen; conv => whnf))
        refine next_keep [1, 4, 40, 41] (r + 1, A) ⟨hlt, hA, hS, fun i' => ?_⟩ (show T.length - (r + 1) < T.length - r by omega) rfl
        by_cases hi' : i' < T.length
        · exact hCi i' (by omega)
        · intro w ha hw k hk
          rw [List.getElem?_eq_none (by omega)] at hk
          cases hk
    · have hrT : r = T.length := by omega
      subst hrT
      have hD : Dist T F A := ⟨hA, hS, fun i w ha k hk => cmp_all hM (by have := (List.getElem?_eq_some_iff.1 hk).1; omega) (hCm i) w ha k hk⟩
      obtain ⟨d, hd⟩ : ∃ d, A[0]? = some d := ⟨_, List.getElem?_eq_getElem (by omega)⟩
      have gd : (A.map (V.int .i64))[0 + Int.toNat 0]? = some (.int .i64 d) := by rw [List.getElem?_map]; show Option.map _ A[0]? = _; rw [hd]; rfl
      have hdb := (hS 0 d hd).2.1
      have hdb0 := (hS 0 d hd).1
      conv => whnf
      repeat' (first | (refine brd_t (by first | assumption | omega) ?_; conv => whnf) | (refine brd_f (by first | assumption | omega) ?_; conv => whnf) | (refine ask (by first | assumption | omega) ?_; conv => whnf) | (refine fit64 (by omega) ?_; conv => whnf) | (refine fit (by simp only [kmin, kmax]; omega) ?_; conv => whnf) | (refine br_t (by assumption) ?_; conv => whnf) | (refine br_f (by assumption) ?_; conv => whnf) | (refine get_of (by assumption) ?_; conv => whnf) | (refine get_map (by assumption) ?_; conv => whnf) | (refine get_of gd ?_; conv => whnf) | (refine draw_lex hE ?_ ?_; decide +kernel; conv => whnf) | (refine draw_any hE [⟨0, [(0, none), (1, none), (2, none), (3, none), (4, none), (5, none), (6, none), (7, none), (8, none), (9, none), (10, none), (11, none), (12, none)], some 13⟩] ?_ ?_; decide +kernel; conv => whnf) | (refine draw_any hE [⟨0, [(0, none), (1, none), (2, none), (3, none), (4, none), (5, none), (6, none), (7, none), (8, none), (9, none), (10, none), (11, none), (12, none), (13, none)], none⟩] ?_ ?_; decide +kernel; conv => whnf) | (refine brd (fun h => ?_) (fun h => ?_) <;> conv => whnf) | (refine br (fun h => ?_) (fun h => ?_) <;> conv => whnf) | (refine ret_now hE ?_; conv => whnf) | (intro hlen; conv => whnf))
      · refine ⟨rfl, ?_⟩
        rw [leastR_none hb]
        · rfl
        · intro v hv
          obtain ⟨v', h1, h2, h3⟩ := acc_short hM v.length v 0 (Nat.le_refl _) hpos hv
          have := hD.cmp 0 v' h1 d hd
          omega
      have hd9 : d < 1000 := by omega
      refine loopE (fun ((out, at') : List Nat × Nat) => ⟨116, [(1, .rp [.lst (T.map ints), .lst (F.map V.bool)]), (4, .sl 1 0 A.length), (11, .sl 0 0 out.length), (12, .int .i64 at')], [some (.row 1 (out.map natV)), some (.row 1 (A.map (V.int .i64)))]⟩)
        (fun (out, at') => Way T F d A out at') (fun (_, at') => (A.getD at' 0).toNat) ([], 0) hE ?_ ?_ (way0 hd) ?_
      · kernel_rfl
      · exact up_own 11 1 rfl rfl (at_keep [1, 4, 11, 12] rfl)
      rintro ⟨out, s⟩ hW
      obtain ⟨hW1, ⟨k, hk, hkd⟩, hW3⟩ := id hW
      have hol : out.length ≤ 1000 := by have := (hS s k hk).1; omega
      have hkb := (hS s k hk).1
      have hom : (out.map natV).length = out.length := by simp
      have hsl : s < T.length := by have := (List.getElem?_eq_some_iff.1 hk).1; omega
      have gk : (A.map (V.int .i64))[0 + Int.toNat (s : Int)]? = some (.int .i64 k) := by rw [List.getElem?_map, Nat.zero_add, Int.toNat_natCast, hk]; rfl
      obtain ⟨row, hrw⟩ : ∃ x, T[s]? = some x := ⟨_, List.getElem?_eq_getElem hsl⟩
      have hrow := hM.row row (List.mem_of_getElem? hrw)
      have hrm : (row.map (V.int .i64)).length = row.length := by simp
      by_cases hk0 : 0 < k
      · conv => whnf
        repeat' (first | (refine brd_t (by first | assumption | omega) ?_; conv => whnf) | (refine brd_f (by first | assumption | omega) ?_; conv => whnf) | (refine ask (by first | assumption | omega) ?_; conv => whnf) | (refine fit64 (by omega) ?_; conv => whnf) | (refine fit (by simp only [kmin, kmax]; omega) ?_; conv => whnf) | (refine br_t (by assumption) ?_; conv => whnf) | (refine br_f (by assumption) ?_; conv => whnf) | (refine get_of (by assumption) ?_; conv => whnf) | (refine get_map (by assumption) ?_; conv => whnf) | (refine get_of gk ?_; conv => whnf) | (refine draw_lex hE ?_ ?_; decide +kernel; conv => whnf) | (refine draw_any hE [⟨0, [(0, none), (1, none), (2, none), (3, none), (4, none), (5, none), (6, none), (7, none), (8, none), (9, none), (10, none), (11, none), (12, none)], some 13⟩] ?_ ?_; decide +kernel; conv => whnf) | (refine draw_any hE [⟨0, [(0, none), (1, none), (2, none), (3, none), (4, none), (5, none), (6, none), (7, none), (8, none), (9, none), (10, none), (11, none), (12, none), (13, none)], none⟩] ?_ ?_; decide +kernel; conv => whnf) | (refine brd (fun h => ?_) (fun h => ?_) <;> conv => whnf) | (refine br (fun h => ?_) (fun h => ?_) <;> conv => whnf) | (refine ret_now hE ?_; conv => whnf) | (intro hlen; conv => whnf))
        refine loopE (fun j : Nat => ⟨116, [(1, .rp [.lst (T.map ints), .lst (F.map V.bool)]), (4, .sl 1 0 A.length), (11, .sl 0 0 out.length), (12, .int .i64 s), (88, ints row), (89, .int .i64 (row.map (V.int .i64)).length), (90, .int .i64 j)], [some (.row 1 (out.map natV)), some (.row 1 (A.map (V.int .i64)))]⟩)
          (fun j => j ≤ row.length ∧ ∀ m < j, ∀ u, stp T s m = some u → A[u]? ≠ some (k - 1)) (fun j => row.length - j) 0 hE ?_ ?_ ⟨Nat.zero_le _, fun m hm => by omega⟩ ?_
        · kernel_rfl
        · exact at_keep [1, 4, 11, 12, 88, 89, 90] rfl
        intro j hj
        obtain ⟨hj, hmin⟩ := hj
        by_cases hjl : j < row.length
        · obtain ⟨x, hx⟩ : ∃ x, row[j]? = some x := ⟨_, List.getElem?_eq_getElem hjl⟩
          have hxb := hrow.2 x (List.mem_of_getElem? hx)
          have hst := stp_of hrw hx
          by_cases h0 : 0 ≤ x
          · rw [if_pos h0] at hst
            obtain ⟨t, rfl⟩ : ∃ t : Nat, x = (t : Int) := ⟨x.toNat, by omega⟩
            rw [Int.toNat_natCast] at hst
            obtain ⟨c, hc⟩ : ∃ c, A[t]? = some c := ⟨_, List.getElem?_eq_getElem (by omega)⟩
            have gc : (A.map (V.int .i64))[0 + Int.toNat (t : Int)]? = some (.int .i64 c) := by rw [List.getElem?_map, Nat.zero_add, Int.toNat_natCast, hc]; rfl
            conv => whnf
            repeat' (first | (refine brd_t (by first | assumption | omega) ?_; conv => whnf) | (refine brd_f (by first | assumption | omega) ?_; conv => whnf) | (refine ask (by first | assumption | omega) ?_; conv => whnf) | (refine fit64 (by omega) ?_; conv => whnf) | (refine fit (by simp only [kmin, kmax]; omega) ?_; conv => whnf) | (refine br_t (by assumption) ?_; conv => whnf) | (refine br_f (by assumption) ?_; conv => whnf) | (refine get_of (by assumption) ?_; conv => whnf) | (refine get_map (by assumption) ?_; conv => whnf) | (refine get_of gk ?_; conv => whnf) | (refine get_of gc ?_; conv => whnf) | (refine ask (Nat.le_refl 1) ?_; conv => whnf) | (refine ask ⟨?_, ?_, ?_⟩ ?_; omega; (show _ + 1 ≤ 9223372036854775807; omega); (show (_ + 1) * _ ≤ 140737488355328; omega); conv => whnf) | (refine draw_lex hE ?_ ?_; decide +kernel; conv => whnf) | (refine draw_any hE [⟨0, [(0, none), (1, none), (2, none), (3, none), (4, none), (5, none), (6, none), (7, none), (8, none), (9, none), (10, none), (11, none), (12, none)], some 13⟩] ?_ ?_; decide +kernel; conv => whnf) | (refine draw_any hE [⟨0, [(0, none), (1, none), (2, none), (3, none), (4, none), (5, none), (6, none), (7, none), (8, none), (9, none), (10, none), (11, none), (12, none), (13, none)], none⟩] ?_ ?_; decide +kernel; conv => whnf) | (refine brd (fun h => ?_) (fun h => ?_) <;> conv => whnf) | (refine br (fun h => ?_) (fun h => ?_) <;> conv => whnf) | (refine ret_now hE ?_; conv => whnf) | (intro hlen; conv => whnf))
            · have hck : A[t]? = some (k - 1) := by rw [hc]; congr 1
              have e3 : killL 2 (killL 0 (List.take out.length (List.drop 0 (out.map natV)) ++ List.take 1 (List.drop 0 [V.int .i64 (j : Int)]))) = (out ++ [j]).map natV := by
                rw [List.drop_zero, List.take_of_length_le (by omega), show out.map natV ++ List.take 1 (List.drop 0 [V.int .i64 (j : Int)]) = (out ++ [j]).map natV by rw [List.map_append]; rfl, kill_nrL _ (nr_nats _), kill_nrL _ (nr_nats _)]
              refine next_drop [1, 4, 11, 12] [2] (out ++ [j], t) (way_step hD hW hk hst hck hmin hM) ?_ ?_
              · show (A.getD t 0).toNat < (A.getD s 0).toNat
                rw [List.getD_eq_getElem?_getD, List.getD_eq_getElem?_getD, hck, hk]
                show (k - 1).toNat < k.toNat
                omega
              · conv => whnf
                rw [e3, kill_nrL _ (nr_i64 _), kill_nrL _ (nr_i64 _)]
                show _ = (⟨116, [(1, .rp [.lst (T.map ints), .lst (F.map V.bool)]), (4, .sl 1 0 A.length), (11, .sl 0 0 (out ++ [j]).length), (12, .int .i64 t)], [some (.row 1 ((out ++ [j]).map natV)), some (.row 1 (A.map (V.int .i64)))]⟩ : ES)
                rw [List.length_append]
                rfl
            · refine next_keep [1, 4, 11, 12, 88, 89, 90] (j + 1) ⟨hjl, fun m hm u hu => ?_⟩ (by omega) rfl
              by_cases e : m = j
              · subst e
                rw [hst] at hu
                cases hu
                rw [hc]
                intro e
                simp at e
                omega
              · exact hmin m (by omega) u hu
          · rw [if_neg h0] at hst
            conv => whnf
            repeat' (first | (refine brd_t (by first | assumption | omega) ?_; conv => whnf) | (refine brd_f (by first | assumption | omega) ?_; conv => whnf) | (refine ask (by first | assumption | omega) ?_; conv => whnf) | (refine fit64 (by omega) ?_; conv => whnf) | (refine fit (by simp only [kmin, kmax]; omega) ?_; conv => whnf) | (refine br_t (by assumption) ?_; conv => whnf) | (refine br_f (by assumption) ?_; conv => whnf) | (refine get_of (by assumption) ?_; conv => whnf) | (refine get_map (by assumption) ?_; conv => whnf) | (refine draw_lex hE ?_ ?_; decide +kernel; conv => whnf) | (refine draw_any hE [⟨0, [(0, none), (1, none), (2, none), (3, none), (4, none), (5, none), (6, none), (7, none), (8, none), (9, none), (10, none), (11, none), (12, none)], some 13⟩] ?_ ?_; decide +kernel; conv => whnf) | (refine draw_any hE [⟨0, [(0, none), (1, none), (2, none), (3, none), (4, none), (5, none), (6, none), (7, none), (8, none), (9, none), (10, none), (11, none), (12, none), (13, none)], none⟩] ?_ ?_; decide +kernel; conv => whnf) | (refine brd (fun h => ?_) (fun h => ?_) <;> conv => whnf) | (refine br (fun h => ?_) (fun h => ?_) <;> conv => whnf) | (refine ret_now hE ?_; conv => whnf) | (intro hlen; conv => whnf))
            refine next_keep [1, 4, 11, 12, 88, 89, 90] (j + 1) ⟨hjl, fun m hm u hu => ?_⟩ (by omega) rfl
            by_cases e : m = j
            · subst e; rw [hst] at hu; cases hu
            · exact hmin m (by omega) u hu
        · exfalso
          obtain ⟨n, t, h1, h2⟩ := near hM hD hk hk0 (by omega)
          exact hmin n (by have := (stp_lt hM h1).2.1; omega) t h1 h2
      · have hk00 : k = 0 := by omega
        subst hk00
        have hL := way_end hD hd hW hk
        conv => whnf
        repeat' (first | (refine brd_t (by first | assumption | omega) ?_; conv => whnf) | (refine brd_f (by first | assumption | omega) ?_; conv => whnf) | (refine ask (by first | assumption | omega) ?_; conv => whnf) | (refine fit64 (by omega) ?_; conv => whnf) | (refine fit (by simp only [kmin, kmax]; omega) ?_; conv => whnf) | (refine br_t (by assumption) ?_; conv => whnf) | (refine br_f (by assumption) ?_; conv => whnf) | (refine get_of (by assumption) ?_; conv => whnf) | (refine get_map (by assumption) ?_; conv => whnf) | (refine get_of gk ?_; conv => whnf) | (refine ret_up (up_frzK 0 2 [3] rfl (nr_nats _) rfl (by omega) rfl (up_here ?_))) | (refine draw_lex hE ?_ ?_; decide +kernel; conv => whnf) | (refine draw_any hE [⟨0, [(0, none), (1, none), (2, none), (3, none), (4, none), (5, none), (6, none), (7, none), (8, none), (9, none), (10, none), (11, none), (12, none)], some 13⟩] ?_ ?_; decide +kernel; conv => whnf) | (refine draw_any hE [⟨0, [(0, none), (1, none), (2, none), (3, none), (4, none), (5, none), (6, none), (7, none), (8, none), (9, none), (10, none), (11, none), (12, none), (13, none)], none⟩] ?_ ?_; decide +kernel; conv => whnf) | (refine brd (fun h => ?_) (fun h => ?_) <;> conv => whnf) | (refine br (fun h => ?_) (fun h => ?_) <;> conv => whnf) | (refine ret_now hE ?_; conv => whnf) | (intro hlen; conv => whnf))
        refine ⟨rfl, ?_⟩
        rw [leastR_is hb hL]
        show V.tup [.lst (nlL (out.map natV)), _] = _
        rw [nl_nats]; rfl
end Go.Proofs.Ytaapdbcbefnhgaa
