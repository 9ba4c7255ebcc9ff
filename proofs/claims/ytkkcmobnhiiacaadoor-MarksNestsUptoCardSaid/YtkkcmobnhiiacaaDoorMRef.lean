/- The document's MarksNorm, walked. No conditions. -/
import Derived.Test.YtkkcmobnhiiacaaDoorMRefA
set_option linter.unusedSimpArgs false
set_option linter.unusedVariables false
set_option maxRecDepth 100000
namespace Go.Proofs.YtkkcmobnhiiacaaDoor
open Go.RowKit

set_option maxHeartbeats 16000000 in
theorem ref_norm (L : List (List UInt8)) (l : List Rn) (hs : sumT l ≤ 1048576) : Fn1 Tryd.prog 20 [.lst (L.map V.str), .lst (l.map rnA)] (fun r => r = refN L l) := by
  have hlm : (l.map rnA).length = l.length := by simp
  have hLm : (L.map V.str).length = L.length := by simp
  have hf := marks_fault L
  obtain ⟨c, hc⟩ : ∃ c, marksCode L = c := ⟨_, rfl⟩
  rw [hc] at hf
  refine fn1_nl ?_
  by_cases hc0 : c = 0
  · subst hc0
    obtain ⟨hL4, hnd⟩ := marks_good hc
    refine fn1E (T := Tryd.tt) Tryd.func20 rfl tt_all follows_all ?_ ?_ fun C hC hE => ?_
    · kernel_rfl
    · exact Nat.le_of_ble_eq_true (by kernel_rfl)
    conv => whnf
    repeat' (first | (refine brd_t (by first | assumption | omega) ?_; conv => whnf) | (refine brd_f (by first | assumption | omega) ?_; conv => whnf) | (refine ask (by first | assumption | omega) ?_; conv => whnf) | (refine fit64 (by omega) ?_; conv => whnf) | (refine fit (by simp only [kmin, kmax]; omega) ?_; conv => whnf) | (refine br_t (by assumption) ?_; conv => whnf) | (refine br_f (by assumption) ?_; conv => whnf) | (refine get_of (by assumption) ?_; conv => whnf) | (refine get_map (by assumption) ?_; conv => whnf) | (refine call_eq (hf) hC hasBody_54 ?_ ?_ ?_; kernel_rfl; kernel_rfl; conv => whnf) | (refine callq_eq (hf) hC hasBody_54 ?_ ?_ ?_; kernel_rfl; kernel_rfl; conv => whnf) | (refine brd_f (fun h => absurd rfl h) ?_; conv => whnf) | (refine draw_lex hE ?_ ?_; decide +kernel; conv => whnf) | (refine draw_any hE [⟨0, [(0, none), (1, none), (2, none), (3, none), (4, none), (5, none), (6, none), (7, none), (8, none), (9, none), (10, none), (11, none), (12, none), (13, none)], none, [], [[]]⟩] ?_ ?_; decide +kernel; conv => whnf) | (refine draw_any hE [⟨0, [(0, none), (1, none), (2, none), (3, none), (4, none), (5, none), (6, none), (7, none), (8, none), (9, none), (10, none), (11, none), (12, none), (13, none), (14, none)], some 15, [], [[]]⟩] ?_ ?_; decide +kernel; conv => whnf) | (refine brd (fun h => ?_) (fun h => ?_) <;> conv => whnf) | (refine br (fun h => ?_) (fun h => ?_) <;> conv => whnf) | (refine ret_now hE ?_; conv => whnf) | (intro hlen; conv => whnf) | (refine seg_here ?_; conv => whnf) | (refine both ?_ ?_ <;> conv => whnf))
    · refine ⟨rfl, ?_⟩
      unfold refN
      rw [if_pos hc, if_pos (by omega)]
      rfl
    have h60 : ¬ 60 < l.length := by omega
    have hrN : refN L l = normV L l := by unfold refN; rw [if_pos hc, if_neg h60]
    refine loopE (fun k : Nat => ⟨145, [(0, .lst (L.map V.str)), (7, .sl 0 0 (setsL L (l.take k)).length), (8, .str (txtL (l.take k))), (29, .lst (l.map rnA)), (30, .int .i64 (l.map rnA).length), (31, .int .i64 k)], [some (.row 1 (setsL L (l.take k)))]⟩)
      (fun k => k ≤ l.length ∧ ∀ j < k, ∀ x, l[j]? = some x → okR L x = true) (fun k => l.length - k) 0 hE ?_ ?_ ⟨Nat.zero_le _, fun j hj => by omega⟩ ?_
    · kernel_rfl
    · exact up_own 7 1 rfl rfl (at_keep [0, 7, 8, 29, 30, 31] rfl)
    intro k hk
    obtain ⟨hk, hj⟩ := hk
    have hst := sumT_take l k
    have hsl := setsL_len L (l.take k)
    by_cases hlt : k < l.length
    · obtain ⟨x, hx⟩ : ∃ x, l[k]? = some x := ⟨_, List.getElem?_eq_getElem hlt⟩
      have hxm : (x.marks.map V.str).length = x.marks.length := by simp
      conv => whnf
      repeat' (first | (refine brd_t (by first | assumption | omega) ?_; conv => whnf) | (refine brd_f (by first | assumption | omega) ?_; conv => whnf) | (refine ask (by first | assumption | omega) ?_; conv => whnf) | (refine fit64 (by omega) ?_; conv => whnf) | (refine fit (by simp only [kmin, kmax]; omega) ?_; conv => whnf) | (refine br_t (by assumption) ?_; conv => whnf) | (refine br_f (by assumption) ?_; conv => whnf) | (refine get_of (by assumption) ?_; conv => whnf) | (refine get_map (by assumption) ?_; conv => whnf) | (refine draw_lex hE ?_ ?_; decide +kernel; conv => whnf) | (refine draw_any hE [⟨0, [(0, none), (1, none), (2, none), (3, none), (4, none), (5, none), (6, none), (7, none), (8, none), (9, none), (10, none), (11, none), (12, none), (13, none)], none, [], [[]]⟩] ?_ ?_; decide +kernel; conv => whnf) | (refine draw_any hE [⟨0, [(0, none), (1, none), (2, none), (3, none), (4, none), (5, none), (6, none), (7, none), (8, none), (9, none), (10, none), (11, none), (12, none), (13, none), (14, none)], some 15, [], [[]]⟩] ?_ ?_; decide +kernel; conv => whnf) | (refine brd (fun h => ?_) (fun h => ?_) <;> conv => whnf) | (refine br (fun h => ?_) (fun h => ?_) <;> conv => whnf) | (refine ret_now hE ?_; conv => whnf) | (intro hlen; conv => whnf) | (refine seg_here ?_; conv => whnf) | (refine both ?_ ?_ <;> conv => whnf))
      refine loopE (fun j : Nat => ⟨145, [(0, .lst (L.map V.str)), (7, .sl 0 0 (setsL L (l.take k)).length), (8, .str (txtL (l.take k))), (10, .ptr 1 0 0), (11, setI L (x.marks.take j)), (29, .lst (l.map rnA)), (30, .int .i64 (l.map rnA).length), (31, .int .i64 k), (36, .lst (x.marks.map V.str)), (37, .int .i64 (x.marks.map V.str).length), (38, .int .i64 j)],
          [some (.row 1 (setsL L (l.take k))), some (.row 2 [rnA x])]⟩)
        (fun j => j ≤ x.marks.length ∧ ∀ i < j, ∀ m, x.marks[i]? = some m → m ∈ L) (fun j => x.marks.length - j) 0 hE ?_ ?_ ⟨Nat.zero_le _, fun j hj => by omega⟩ ?_
      · kernel_rfl
      · refine at_keep [0, 7, 8, 10, 11, 29, 30, 31, 36, 37, 38] ?_
        rw [List.take_zero, setI, hasM_nil]
        rfl
      intro j hjm
      obtain ⟨hjl, hji⟩ := hjm
      by_cases hjlt : j < x.marks.length
      · obtain ⟨m, hm⟩ : ∃ m, x.marks[j]? = some m := ⟨_, List.getElem?_eq_getElem hjlt⟩
        have htk : x.marks.take (j + 1) = x.marks.take j ++ [m] := by rw [List.take_add_one, hm]; rfl
        conv => whnf
        repeat' (first | (refine brd_t (by first | assumption | omega) ?_; conv => whnf) | (refine brd_f (by first | assumption | omega) ?_; conv => whnf) | (refine ask (by first | assumption | omega) ?_; conv => whnf) | (refine fit64 (by omega) ?_; conv => whnf) | (refine fit (by simp only [kmin, kmax]; omega) ?_; conv => whnf) | (refine br_t (by assumption) ?_; conv => whnf) | (refine br_f (by assumption) ?_; conv => whnf) | (refine get_of (by assumption) ?_; conv => whnf) | (refine get_map (by assumption) ?_; conv => whnf) | (refine draw_lex hE ?_ ?_; decide +kernel; conv => whnf) | (refine draw_any hE [⟨0, [(0, none), (1, none), (2, none), (3, none), (4, none), (5, none), (6, none), (7, none), (8, none), (9, none), (10, none), (11, none), (12, none), (13, none)], none, [], [[]]⟩] ?_ ?_; decide +kernel; conv => whnf) | (refine draw_any hE [⟨0, [(0, none), (1, none), (2, none), (3, none), (4, none), (5, none), (6, none), (7, none), (8, none), (9, none), (10, none), (11, none), (12, none), (13, none), (14, none)], some 15, [], [[]]⟩] ?_ ?_; decide +kernel; conv => whnf) | (refine brd (fun h => ?_) (fun h => ?_) <;> conv => whnf) | (refine br (fun h => ?_) (fun h => ?_) <;> conv => whnf) | (refine ret_now hE ?_; conv => whnf) | (intro hlen; conv => whnf) | (refine seg_here ?_; conv => whnf) | (refine both ?_ ?_ <;> conv => whnf))
        refine loopE (fun i : Nat => ⟨145, [(0, .lst (L.map V.str)), (7, .sl 0 0 (setsL L (l.take k)).length), (8, .str (txtL (l.take k))), (10, .ptr 1 0 0), (11, setI L (x.marks.take j)), (13, .str m), (14, .int .i64 (findK L m i)), (29, .lst (l.map rnA)), (30, .int .i64 (l.map rnA).length), (31, .int .i64 k), (36, .lst (x.marks.map V.str)), (37, .int .i64 (x.marks.map V.str).length), (38, .int .i64 j), (42, .lst (L.map V.str)), (43, .int .i64 (L.map V.str).length), (44, .int .i64 i)],
            [some (.row 1 (setsL L (l.take k))), some (.row 2 [rnA x])]⟩)
          (fun i => i ≤ L.length) (fun i => L.length - i) 0 hE ?_ ?_ (Nat.zero_le _) ?_
        · kernel_rfl
        · exact at_keep [0, 7, 8, 10, 11, 13, 14, 29, 30, 31, 36, 37, 38, 42, 43, 44] rfl
        intro i hi
        by_cases hilt : i < L.length
        · obtain ⟨q, hq⟩ : ∃ q, L[i]? = some q := ⟨_, List.getElem?_eq_getElem hilt⟩
          by_cases hqm : q = m
          · have hfk : findK L m (i + 1) = (i : Int) := by unfold findK; rw [if_pos (hqm ▸ hq)]
            conv => whnf
            repeat' (first | (refine brd_t (by first | assumption | omega) ?_; conv => whnf) | (refine brd_f (by first | assumption | omega) ?_; conv => whnf) | (refine ask (by first | assumption | omega) ?_; conv => whnf) | (refine fit64 (by omega) ?_; conv => whnf) | (refine fit (by simp only [kmin, kmax]; omega) ?_; conv => whnf) | (refine br_t (by assumption) ?_; conv => whnf) | (refine br_f (by assumption) ?_; conv => whnf) | (refine get_of (by assumption) ?_; conv => whnf) | (refine get_map (by assumption) ?_; conv => whnf) | (refine draw_lex hE ?_ ?_; decide +kernel; conv => whnf) | (refine draw_any hE [⟨0, [(0, none), (1, none), (2, none), (3, none), (4, none), (5, none), (6, none), (7, none), (8, none), (9, none), (10, none), (11, none), (12, none), (13, none)], none, [], [[]]⟩] ?_ ?_; decide +kernel; conv => whnf) | (refine draw_any hE [⟨0, [(0, none), (1, none), (2, none), (3, none), (4, none), (5, none), (6, none), (7, none), (8, none), (9, none), (10, none), (11, none), (12, none), (13, none), (14, none)], some 15, [], [[]]⟩] ?_ ?_; decide +kernel; conv => whnf) | (refine brd (fun h => ?_) (fun h => ?_) <;> conv => whnf) | (refine br (fun h => ?_) (fun h => ?_) <;> conv => whnf) | (refine ret_now hE ?_; conv => whnf) | (intro hlen; conv => whnf) | (refine seg_here ?_; conv => whnf) | (refine both ?_ ?_ <;> conv => whnf))
            refine next_keep [0, 7, 8, 10, 11, 13, 14, 29, 30, 31, 36, 37, 38, 42, 43, 44] (i + 1) hilt (show L.length - (i + 1) < L.length - i by omega) ?_
            rw [hfk]
            rfl
          · have hfk : findK L m (i + 1) = findK L m i := by
              rw [findK, if_neg]
              intro h
              rw [hq] at h
              cases h
              exact hqm rfl
            conv => whnf
            repeat' (first | (refine brd_t (by first | assumption | omega) ?_; conv => whnf) | (refine brd_f (by first | assumption | omega) ?_; conv => whnf) | (refine ask (by first | assumption | omega) ?_; conv => whnf) | (refine fit64 (by omega) ?_; conv => whnf) | (refine fit (by simp only [kmin, kmax]; omega) ?_; conv => whnf) | (refine br_t (by assumption) ?_; conv => whnf) | (refine br_f (by assumption) ?_; conv => whnf) | (refine get_of (by assumption) ?_; conv => whnf) | (refine get_map (by assumption) ?_; conv => whnf) | (refine draw_lex hE ?_ ?_; decide +kernel; conv => whnf) | (refine draw_any hE [⟨0, [(0, none), (1, none), (2, none), (3, none), (4, none), (5, none), (6, none), (7, none), (8, none), (9, none), (10, none), (11, none), (12, none), (13, none)], none, [], [[]]⟩] ?_ ?_; decide +kernel; conv => whnf) | (refine draw_any hE [⟨0, [(0, none), (1, none), (2, none), (3, none), (4, none), (5, none), (6, none), (7, none), (8, none), (9, none), (10, none), (11, none), (12, none), (13, none), (14, none)], some 15, [], [[]]⟩] ?_ ?_; decide +kernel; conv => whnf) | (refine brd (fun h => ?_) (fun h => ?_) <;> conv => whnf) | (refine br (fun h => ?_) (fun h => ?_) <;> conv => whnf) | (refine ret_now hE ?_; conv => whnf) | (intro hlen; conv => whnf) | (refine seg_here ?_; conv => whnf) | (refine both ?_ ?_ <;> conv => whnf))
            refine next_keep [0, 7, 8, 10, 11, 13, 14, 29, 30, 31, 36, 37, 38, 42, 43, 44] (i + 1) hilt (show L.length - (i + 1) < L.length - i by omega) ?_
            rw [hfk]
            rfl
        · have hiL : i = L.length := by omega
          subst hiL
          by_cases hin : m ∈ L
          · obtain ⟨kk, hk1, hk2, hk3⟩ := findK_in hin
            have hkk : kk < 4 := by omega
            have hbit : setI L (x.marks.take (j + 1)) = .int .i64 (bitOr .i64 ((setB (hasM L (x.marks.take j)) : Nat) : Int) ((2 ^ kk : Nat) : Int)) := by
              rw [htk, setI, setB_bits _ kk hkk]
              congr 3
              funext a
              exact hasM_add hnd hk2 a
            have hsh := shl_k kk hkk
            have hpw : ((2 ^ kk : Nat) : Int) ≤ 8 ∧ (0 : Int) ≤ ((2 ^ kk : Nat) : Int) := ⟨Int.ofNat_le.2 (pow_k kk hkk), Int.natCast_nonneg _⟩
            generalize ((2 ^ kk : Nat) : Int) = pw at hbit hsh hpw
            rw [hk3]
            conv => whnf
            repeat' (first | (refine brd_t (by first | assumption | omega) ?_; conv => whnf) | (refine brd_f (by first | assumption | omega) ?_; conv => whnf) | (refine ask (by first | assumption | omega) ?_; conv => whnf) | (refine fit64 (by omega) ?_; conv => whnf) | (refine fit (by simp only [kmin, kmax]; omega) ?_; conv => whnf) | (refine br_t (by assumption) ?_; conv => whnf) | (refine br_f (by assumption) ?_; conv => whnf) | (refine get_of (by assumption) ?_; conv => whnf) | (refine get_map (by assumption) ?_; conv => whnf) | (refine fit64 (by rw [hsh]; omega) ?_; conv => whnf) | (refine draw_lex hE ?_ ?_; decide +kernel; conv => whnf) | (refine draw_any hE [⟨0, [(0, none), (1, none), (2, none), (3, none), (4, none), (5, none), (6, none), (7, none), (8, none), (9, none), (10, none), (11, none), (12, none), (13, none)], none, [], [[]]⟩] ?_ ?_; decide +kernel; conv => whnf) | (refine draw_any hE [⟨0, [(0, none), (1, none), (2, none), (3, none), (4, none), (5, none), (6, none), (7, none), (8, none), (9, none), (10, none), (11, none), (12, none), (13, none), (14, none)], some 15, [], [[]]⟩] ?_ ?_; decide +kernel; conv => whnf) | (refine brd (fun h => ?_) (fun h => ?_) <;> conv => whnf) | (refine br (fun h => ?_) (fun h => ?_) <;> conv => whnf) | (refine ret_now hE ?_; conv => whnf) | (intro hlen; conv => whnf) | (refine seg_here ?_; conv => whnf) | (refine both ?_ ?_ <;> conv => whnf))
            refine next_keep [0, 7, 8, 10, 11, 29, 30, 31, 36, 37, 38] (j + 1) ⟨hjlt, fun a ha y hy => ?_⟩ (show x.marks.length - (j + 1) < x.marks.length - j by omega) ?_
            · by_cases e : a = j
              · subst e
                rw [hm] at hy
                cases hy
                exact hin
              · exact hji a (by omega) y hy
            · rw [hbit, ← hsh]
              rfl
          · have hfn := findK_not hin
            rw [hfn]
            conv => whnf
            repeat' (first | (refine brd_t (by first | assumption | omega) ?_; conv => whnf) | (refine brd_f (by first | assumption | omega) ?_; conv => whnf) | (refine ask (by first | assumption | omega) ?_; conv => whnf) | (refine fit64 (by omega) ?_; conv => whnf) | (refine fit (by simp only [kmin, kmax]; omega) ?_; conv => whnf) | (refine br_t (by assumption) ?_; conv => whnf) | (refine br_f (by assumption) ?_; conv => whnf) | (refine get_of (by assumption) ?_; conv => whnf) | (refine get_map (by assumption) ?_; conv => whnf) | (refine draw_lex hE ?_ ?_; decide +kernel; conv => whnf) | (refine draw_any hE [⟨0, [(0, none), (1, none), (2, none), (3, none), (4, none), (5, none), (6, none), (7, none), (8, none), (9, none), (10, none), (11, none), (12, none), (13, none)], none, [], [[]]⟩] ?_ ?_; decide +kernel; conv => whnf) | (refine draw_any hE [⟨0, [(0, none), (1, none), (2, none), (3, none), (4, none), (5, none), (6, none), (7, none), (8, none), (9, none), (10, none), (11, none), (12, none), (13, none), (14, none)], some 15, [], [[]]⟩] ?_ ?_; decide +kernel; conv => whnf) | (refine brd (fun h => ?_) (fun h => ?_) <;> conv => whnf) | (refine br (fun h => ?_) (fun h => ?_) <;> conv => whnf) | (refine ret_now hE ?_; conv => whnf) | (intro hlen; conv => whnf) | (refine seg_here ?_; conv => whnf) | (refine both ?_ ?_ <;> conv => whnf))
            refine ⟨rfl, ?_⟩
            have hbad : okR L x = false := by
              unfold okR
              exact List.all_eq_false.2 ⟨m, List.mem_of_getElem? hm, by simpa using hin⟩
            rw [hrN, normV_bad (List.mem_of_getElem? hx) hbad]
            rfl
      · have hje : x.marks.take j = x.marks := List.take_of_length_le (by omega)
        have hokx : okR L x = true := by
          unfold okR
          refine List.all_eq_true.2 fun m hm => ?_
          obtain ⟨i, hi⟩ := List.mem_iff_getElem?.1 hm
          exact decide_eq_true (hji i (by have := (List.getElem?_eq_some_iff.1 hi).1; omega) m hi)
        have hxt := sumT_mem (List.mem_of_getElem? hx)
        have hts := txtL_step hx
        have hss := setsL_step L hx
        have htl := txtL_len (l.take k)
        have hst1 := sumT_take l (k + 1)
        have hst2 : sumT (l.take (k + 1)) = sumT (l.take k) + x.text.length := by
          rw [List.take_add_one, hx, Option.toList_some, sumT_app]
          simp [sumT]
        rw [hje]
        conv => whnf
        repeat' (first | (refine brd_t (by first | assumption | omega) ?_; conv => whnf) | (refine brd_f (by first | assumption | omega) ?_; conv => whnf) | (refine ask (by first | assumption | omega) ?_; conv => whnf) | (refine fit64 (by omega) ?_; conv => whnf) | (refine fit (by simp only [kmin, kmax]; omega) ?_; conv => whnf) | (refine br_t (by assumption) ?_; conv => whnf) | (refine br_f (by assumption) ?_; conv => whnf) | (refine get_of (by assumption) ?_; conv => whnf) | (refine get_map (by assumption) ?_; conv => whnf) | (refine draw_lex hE ?_ ?_; decide +kernel; conv => whnf) | (refine draw_any hE [⟨0, [(0, none), (1, none), (2, none), (3, none), (4, none), (5, none), (6, none), (7, none), (8, none), (9, none), (10, none), (11, none), (12, none), (13, none)], none, [], [[]]⟩] ?_ ?_; decide +kernel; conv => whnf) | (refine draw_any hE [⟨0, [(0, none), (1, none), (2, none), (3, none), (4, none), (5, none), (6, none), (7, none), (8, none), (9, none), (10, none), (11, none), (12, none), (13, none), (14, none)], some 15, [], [[]]⟩] ?_ ?_; decide +kernel; conv => whnf) | (refine brd (fun h => ?_) (fun h => ?_) <;> conv => whnf) | (refine br (fun h => ?_) (fun h => ?_) <;> conv => whnf) | (refine ret_now hE ?_; conv => whnf) | (intro hlen; conv => whnf) | (refine seg_here ?_; conv => whnf) | (refine both ?_ ?_ <;> conv => whnf))
        refine loopE (fun i : Nat => ⟨145, [(0, .lst (L.map V.str)), (7, .sl 0 0 (setsL L (l.take k) ++ List.replicate i (setI L x.marks)).length), (8, .str (txtL (l.take k))), (10, .ptr 1 0 0), (11, setI L x.marks), (29, .lst (l.map rnA)), (30, .int .i64 (l.map rnA).length), (31, .int .i64 k), (64, .int .i64 x.text.length), (65, .int .i64 i)],
            [some (.row 1 (setsL L (l.take k) ++ List.replicate i (setI L x.marks))), some (.row 2 [rnA x])]⟩)
          (fun i => i ≤ x.text.length) (fun i => x.text.length - i) 0 hE ?_ ?_ (Nat.zero_le _) ?_
        · kernel_rfl
        · refine at_keep [0, 7, 8, 10, 11, 29, 30, 31, 64, 65] ?_
          rw [List.replicate_zero, List.append_nil]
          rfl
        intro i hi
        by_cases hilt : i < x.text.length
        · have hal : (setsL L (l.take k) ++ List.replicate i (setI L x.marks)).length = sumT (l.take k) + i := by rw [List.length_append, hsl, List.length_replicate]
          generalize hA : setsL L (l.take k) ++ List.replicate i (setI L x.marks) = A at hal
          have hA1 : setsL L (l.take k) ++ List.replicate (i + 1) (setI L x.marks) = A ++ [setI L x.marks] := by rw [List.replicate_succ', ← List.append_assoc, hA]
          conv => whnf
          repeat' (first | (refine brd_t (by first | assumption | omega) ?_; conv => whnf) | (refine brd_f (by first | assumption | omega) ?_; conv => whnf) | (refine ask (by first | assumption | omega) ?_; conv => whnf) | (refine fit64 (by omega) ?_; conv => whnf) | (refine fit (by simp only [kmin, kmax]; omega) ?_; conv => whnf) | (refine br_t (by assumption) ?_; conv => whnf) | (refine br_f (by assumption) ?_; conv => whnf) | (refine get_of (by assumption) ?_; conv => whnf) | (refine get_map (by assumption) ?_; conv => whnf) | (refine ask (Nat.le_refl 1) ?_; conv => whnf) | (refine ask ⟨?_, ?_, ?_⟩ ?_; omega; (show _ + 1 ≤ 9223372036854775807; omega); (show (_ + 1) * 8 ≤ 140737488355328; omega); conv => whnf) | (refine draw_lex hE ?_ ?_; decide +kernel; conv => whnf) | (refine draw_any hE [⟨0, [(0, none), (1, none), (2, none), (3, none), (4, none), (5, none), (6, none), (7, none), (8, none), (9, none), (10, none), (11, none), (12, none), (13, none)], none, [], [[]]⟩] ?_ ?_; decide +kernel; conv => whnf) | (refine draw_any hE [⟨0, [(0, none), (1, none), (2, none), (3, none), (4, none), (5, none), (6, none), (7, none), (8, none), (9, none), (10, none), (11, none), (12, none), (13, none), (14, none)], some 15, [], [[]]⟩] ?_ ?_; decide +kernel; conv => whnf) | (refine brd (fun h => ?_) (fun h => ?_) <;> conv => whnf) | (refine br (fun h => ?_) (fun h => ?_) <;> conv => whnf) | (refine ret_now hE ?_; conv => whnf) | (intro hlen; conv => whnf) | (refine seg_here ?_; conv => whnf) | (refine both ?_ ?_ <;> conv => whnf))
          have hnA : nrL A := by rw [← hA]; exact (nrL_append _ _).2 ⟨nr_setsL _ _, nr_repl _ _ _⟩
          have hnv : nrL [setI L x.marks] := ⟨trivial, trivial⟩
          have hk0 : killL 2 (killL 0 (List.take A.length (List.drop 0 A) ++ List.take 1 (List.drop 0 [setI L x.marks]))) = A ++ [setI L x.marks] := kill_app1 0 2 hnA hnv
          have hk1 : killL 2 (killL 0 [rnA x]) = [rnA x] := (congrArg (killL 2) (kill_nrL 0 (nr_rn [x]))).trans (kill_nrL 2 (nr_rn [x]))
          refine next_drop [0, 7, 8, 10, 11, 29, 30, 31, 64, 65] [2] (i + 1) hilt (show x.text.length - (i + 1) < x.text.length - i by omega) ?_
          unfold setI at hk0 hA1 ⊢
          conv => whnf
          rw [hk0, hk1, hA1, List.length_append]
          rfl
        · have hie : i = x.text.length := by omega
          subst hie
          rw [← hss]
          conv => whnf
          repeat' (first | (refine brd_t (by first | assumption | omega) ?_; conv => whnf) | (refine brd_f (by first | assumption | omega) ?_; conv => whnf) | (refine ask (by first | assumption | omega) ?_; conv => whnf) | (refine fit64 (by omega) ?_; conv => whnf) | (refine fit (by simp only [kmin, kmax]; omega) ?_; conv => whnf) | (refine br_t (by assumption) ?_; conv => whnf) | (refine br_f (by assumption) ?_; conv => whnf) | (refine get_of (by assumption) ?_; conv => whnf) | (refine get_map (by assumption) ?_; conv => whnf) | (refine draw_lex hE ?_ ?_; decide +kernel; conv => whnf) | (refine draw_any hE [⟨0, [(0, none), (1, none), (2, none), (3, none), (4, none), (5, none), (6, none), (7, none), (8, none), (9, none), (10, none), (11, none), (12, none), (13, none)], none, [], [[]]⟩] ?_ ?_; decide +kernel; conv => whnf) | (refine draw_any hE [⟨0, [(0, none), (1, none), (2, none), (3, none), (4, none), (5, none), (6, none), (7, none), (8, none), (9, none), (10, none), (11, none), (12, none), (13, none), (14, none)], some 15, [], [[]]⟩] ?_ ?_; decide +kernel; conv => whnf) | (refine brd (fun h => ?_) (fun h => ?_) <;> conv => whnf) | (refine br (fun h => ?_) (fun h => ?_) <;> conv => whnf) | (refine ret_now hE ?_; conv => whnf) | (intro hlen; conv => whnf) | (refine seg_here ?_; conv => whnf) | (refine both ?_ ?_ <;> conv => whnf))
          refine next_drop [0, 7, 8, 29, 30, 31] [1] (k + 1) ⟨hlt, fun a ha y hy => ?_⟩ (show l.length - (k + 1) < l.length - k by omega) ?_
          · by_cases e : a = k
            · subst e
              rw [hx] at hy
              cases hy
              exact hokx
            · exact hj a (by omega) y hy
          · conv => whnf
            rw [kill_nrL 1 (nr_setsL _ _), hts]
            rfl
    · have hkl : l.take k = l := List.take_of_length_le (by omega)
      have hall : ∀ j < l.length, ∀ x, l[j]? = some x → okR L x = true := fun j hjl => hj j (by omega)
      have htl := txtL_len l
      have hsl := setsL_len L l
      rw [hkl]
      conv => whnf
      repeat' (first | (refine brd_t (by first | assumption | omega) ?_; conv => whnf) | (refine brd_f (by first | assumption | omega) ?_; conv => whnf) | (refine ask (by first | assumption | omega) ?_; conv => whnf) | (refine fit64 (by omega) ?_; conv => whnf) | (refine fit (by simp only [kmin, kmax]; omega) ?_; conv => whnf) | (refine br_t (by assumption) ?_; conv => whnf) | (refine br_f (by assumption) ?_; conv => whnf) | (refine get_of (by assumption) ?_; conv => whnf) | (refine get_map (by assumption) ?_; conv => whnf) | (refine draw_lex hE ?_ ?_; decide +kernel; conv => whnf) | (refine draw_any hE [⟨0, [(0, none), (1, none), (2, none), (3, none), (4, none), (5, none), (6, none), (7, none), (8, none), (9, none), (10, none), (11, none), (12, none), (13, none)], none, [], [[]]⟩] ?_ ?_; decide +kernel; conv => whnf) | (refine draw_any hE [⟨0, [(0, none), (1, none), (2, none), (3, none), (4, none), (5, none), (6, none), (7, none), (8, none), (9, none), (10, none), (11, none), (12, none), (13, none), (14, none)], some 15, [], [[]]⟩] ?_ ?_; decide +kernel; conv => whnf) | (refine brd (fun h => ?_) (fun h => ?_) <;> conv => whnf) | (refine br (fun h => ?_) (fun h => ?_) <;> conv => whnf) | (refine ret_now hE ?_; conv => whnf) | (intro hlen; conv => whnf) | (refine seg_here ?_; conv => whnf) | (refine both ?_ ?_ <;> conv => whnf))
      refine loopE (fun i : Nat => ⟨145, [(0, .lst (L.map V.str)), (7, .sl 0 0 (setsL L l).length), (8, .str (txtL l)), (16, .sl 1 0 (outB L l i).length), (78, .int .i64 (txtL l).length), (79, .int .i64 i)], [some (.row 1 (setsL L l)), some (.row 2 ((outB L l i).map rnA))]⟩)
        (fun i => i ≤ sumT l) (fun i => sumT l - i) 0 hE ?_ ?_ (Nat.zero_le _) ?_
      · kernel_rfl
      · exact up_own 16 2 rfl rfl (at_keep [0, 7, 8, 16, 78, 79] rfl)
      intro i hi
      have hom : ((outB L l i).map rnA).length = (outB L l i).length := by simp
      have hos := outB_sum L l i hi
      by_cases hilt : i < sumT l
      · obtain ⟨p, hp⟩ : ∃ p, (flatB l)[i]? = some p := ⟨_, List.getElem?_eq_getElem (by rw [flatB_len]; omega)⟩
        have hst := outB_step (L := L) hp
        have hcut := txt_cut hp
        have hsi : (setsL L l)[i]? = some (setI L p.2.marks) := by unfold setsL; rw [List.getElem?_map, hp]; rfl
        have hsi' : (setsL L l)[0 + ((i : Int)).toNat]? = some (setI L p.2.marks) := by rw [show 0 + ((i : Int)).toNat = i by omega]; exact hsi
        have hcase : (i = 0 ∨ (0 < i ∧ ∃ p', (flatB l)[i - 1]? = some p' ∧ (setsL L l)[0 + ((i : Int) - 1).toNat]? = some (setI L p'.2.marks) ∧ (outB L l i = outB L l (i - 1 + 1)))) := by
          by_cases h0 : i = 0
          · exact .inl h0
          · obtain ⟨p', hp'⟩ : ∃ p', (flatB l)[i - 1]? = some p' := ⟨_, List.getElem?_eq_getElem (by rw [flatB_len]; omega)⟩
            refine .inr ⟨by omega, p', hp', ?_, by rw [show i - 1 + 1 = i by omega]⟩
            rw [show 0 + ((i : Int) - 1).toNat = i - 1 by omega]
            unfold setsL
            rw [List.getElem?_map, hp']
            rfl
        have hkn : ∀ id, killL id ((outB L l i).map rnA) = (outB L l i).map rnA := fun id => kill_nrL id (nr_rn _)
        have hks : ∀ id, killL id (setsL L l) = setsL L l := fun id => kill_nrL id (nr_setsL _ _)
        have hor : (0 < i ∧ ∃ (p' : UInt8 × Rn) (o : List Rn) (q : Rn), (setsL L l)[0 + ((i : Int) - 1).toNat]? = some (setI L p'.2.marks) ∧ outB L l i = o ++ [q] ∧ q.marks = keepM L p.2.marks ∧ ((setB (hasM L p.2.marks) : Nat) : Int) = ((setB (hasM L p'.2.marks) : Nat) : Int)) ∨
            (outB L l (i + 1) = outB L l i ++ [⟨[p.1], keepM L p.2.marks⟩] ∧ (i = 0 ∨ (0 < i ∧ ∃ p' : UInt8 × Rn, (setsL L l)[0 + ((i : Int) - 1).toNat]? = some (setI L p'.2.marks) ∧ ¬ ((setB (hasM L p.2.marks) : Nat) : Int) = ((setB (hasM L p'.2.marks) : Nat) : Int)))) := by
          rcases hcase with h0 | ⟨h0, p', hp', hs', ho'⟩
          · right
            refine ⟨?_, .inl h0⟩
            rw [hst, h0]
            exact addR_nil _
          · obtain ⟨o, q, ho, hq⟩ := outB_last (L := L) hp'
            rw [← ho'] at ho
            by_cases he : ((setB (hasM L p.2.marks) : Nat) : Int) = ((setB (hasM L p'.2.marks) : Nat) : Int)
            · left
              exact ⟨h0, p', o, q, hs', ho, by rw [hq]; exact ((set_eq_i hL4).1 he).symm, he⟩
            · right
              refine ⟨?_, .inr ⟨h0, p', hs', he⟩⟩
              rw [hst, ho, addR_other o q _ (by rw [hq]; exact fun h => he ((set_eq_i hL4).2 h.symm)), if_neg (by simp)]
        clear hcase
        rcases hor with ⟨h0, p', o, q, hs', ho, hq, he⟩ | ⟨hou, hor⟩
        · have hst1 : outB L l (i + 1) = o ++ [(⟨q.text ++ [p.1], q.marks⟩ : Rn)] := by rw [hst, ho, addR_same o q _ hq]
          have hol1 : (outB L l i).length = o.length + 1 := by rw [ho]; simp
          have hqt : q.text.length ≤ i := by rw [← hos.1]; exact sumT_mem (by rw [ho]; simp)
          have hlast : ((outB L l i).map rnA)[0 + (((outB L l i).length : Int) - 1).toNat]? = some (.agg [.str q.text, .lst (q.marks.map V.str)]) := by
            rw [Nat.zero_add, show (((outB L l i).length : Int) - 1).toNat = o.length by omega, ho]
            simp [rnA]
          have he6 : ((outB L l i).map rnA).set (0 + (((outB L l i).length : Int) - 1).toNat) (.agg [.str (q.text ++ [p.1]), .lst (q.marks.map V.str)]) = (o ++ [(⟨q.text ++ [p.1], q.marks⟩ : Rn)]).map rnA := by
            rw [Nat.zero_add, show (((outB L l i).length : Int) - 1).toNat = o.length by omega, ho, List.map_append, List.set_append_right _ _ (by simp), List.map_append]
            simp [rnA]
          conv => whnf
          repeat' (first | (refine brd_t (by first | assumption | omega) ?_; conv => whnf) | (refine brd_f (by first | assumption | omega) ?_; conv => whnf) | (refine ask (by first | assumption | omega) ?_; conv => whnf) | (refine fit64 (by omega) ?_; conv => whnf) | (refine fit (by simp only [kmin, kmax]; omega) ?_; conv => whnf) | (refine br_t (by assumption) ?_; conv => whnf) | (refine br_f (by assumption) ?_; conv => whnf) | (refine get_of (by assumption) ?_; conv => whnf) | (refine get_map (by assumption) ?_; conv => whnf) | (rw [hcut]; conv => whnf) | (refine ask (by simp only [List.length_cons, List.length_nil]; omega) ?_; conv => whnf) | (refine ask (Nat.le_refl 1) ?_; conv => whnf) | (refine draw_lex hE ?_ ?_; decide +kernel; conv => whnf) | (refine draw_any hE [⟨0, [(0, none), (1, none), (2, none), (3, none), (4, none), (5, none), (6, none), (7, none), (8, none), (9, none), (10, none), (11, none), (12, none), (13, none)], none, [], [[]]⟩] ?_ ?_; decide +kernel; conv => whnf) | (refine draw_any hE [⟨0, [(0, none), (1, none), (2, none), (3, none), (4, none), (5, none), (6, none), (7, none), (8, none), (9, none), (10, none), (11, none), (12, none), (13, none), (14, none)], some 15, [], [[]]⟩] ?_ ?_; decide +kernel; conv => whnf) | (refine brd (fun h => ?_) (fun h => ?_) <;> conv => whnf) | (refine br (fun h => ?_) (fun h => ?_) <;> conv => whnf) | (refine ret_now hE ?_; conv => whnf) | (intro hlen; conv => whnf) | (refine seg_here ?_; conv => whnf) | (refine both ?_ ?_ <;> conv => whnf))
          refine next_keep [0, 7, 8, 16, 78, 79] (i + 1) hilt (show sumT l - (i + 1) < sumT l - i by omega) ?_
          have he5 : (outB L l (i + 1)).length = (outB L l i).length := by rw [hst1, hol1]; simp
          rw [he5, hst1, ← he6]
          rfl
        · rcases hor with h0 | ⟨h0, p', hs', he⟩
          · conv => whnf
            repeat' (first | (refine brd_t (by first | assumption | omega) ?_; conv => whnf) | (refine brd_f (by first | assumption | omega) ?_; conv => whnf) | (refine ask (by first | assumption | omega) ?_; conv => whnf) | (refine fit64 (by omega) ?_; conv => whnf) | (refine fit (by simp only [kmin, kmax]; omega) ?_; conv => whnf) | (refine br_t (by assumption) ?_; conv => whnf) | (refine br_f (by assumption) ?_; conv => whnf) | (refine get_of (by assumption) ?_; conv => whnf) | (refine get_map (by assumption) ?_; conv => whnf) | (rw [hcut]; conv => whnf) | (refine draw_lex hE ?_ ?_; decide +kernel; conv => whnf) | (refine draw_any hE [⟨0, [(0, none), (1, none), (2, none), (3, none), (4, none), (5, none), (6, none), (7, none), (8, none), (9, none), (10, none), (11, none), (12, none), (13, none)], none, [], [[]]⟩] ?_ ?_; decide +kernel; conv => whnf) | (refine draw_any hE [⟨0, [(0, none), (1, none), (2, none), (3, none), (4, none), (5, none), (6, none), (7, none), (8, none), (9, none), (10, none), (11, none), (12, none), (13, none), (14, none)], some 15, [], [[]]⟩] ?_ ?_; decide +kernel; conv => whnf) | (refine brd (fun h => ?_) (fun h => ?_) <;> conv => whnf) | (refine br (fun h => ?_) (fun h => ?_) <;> conv => whnf) | (refine ret_now hE ?_; conv => whnf) | (intro hlen; conv => whnf) | (refine seg_here ?_; conv => whnf) | (refine both ?_ ?_ <;> conv => whnf))
            refine loopE (fun j : Nat => ⟨145, [(0, .lst (L.map V.str)), (7, .sl 0 0 (setsL L l).length), (8, .str (txtL l)), (16, .sl 1 0 (outB L l i).length), (17, .int .i64 i), (18, .ptr 2 0 0), (78, .int .i64 (txtL l).length), (79, .int .i64 i), (117, .lst (L.map V.str)), (118, .int .i64 (L.map V.str).length), (119, .int .i64 j)],
                [some (.row 1 (setsL L l)), some (.row 2 ((outB L l i).map rnA)), some (.row 2 [.agg [.str [p.1], .sl 3 0 (keepM (L.take j) p.2.marks).length]]), some (.row 1 ((keepM (L.take j) p.2.marks).map V.str))]⟩)
              (fun j => j ≤ L.length) (fun j => L.length - j) 0 hE ?_ ?_ (Nat.zero_le _) ?_
            · kernel_rfl
            · exact up_ownF 2 1 1 (z := 2) (l := [.str [p.1], .nils]) rfl rfl (at_keep [0, 7, 8, 16, 17, 18, 78, 79, 117, 118, 119] rfl)
            intro j hjL
            have hkl := keepM_len (L.take j) p.2.marks
            have hkm : ((keepM (L.take j) p.2.marks).map V.str).length = (keepM (L.take j) p.2.marks).length := by simp
            have hlt2 : (L.take j).length ≤ j := by simp; omega
            by_cases hjlt : j < L.length
            · obtain ⟨m, hm⟩ : ∃ m, L[j]? = some m := ⟨_, List.getElem?_eq_getElem hjlt⟩
              have hks2 := keepM_step (ms := p.2.marks) hm
              have hbit := setB_bit (hasM L p.2.marks) j (by omega)
              rw [hasM_at hm] at hbit
              by_cases hmm : m ∈ p.2.marks
              · rw [decide_eq_true hmm] at hbit
                have hbit : bitAnd .i64 ((((setB (hasM L p.2.marks) : Nat) : Int)).fdiv (2 ^ (min ((j : Int)).toNat IntKind.i64.bits))) 1 = 1 := hbit
                rw [if_pos hmm] at hks2
                have ha4 : killL 4 (killL 3 (List.take (keepM (L.take j) p.2.marks).length (List.drop 0 ((keepM (L.take j) p.2.marks).map V.str)) ++ List.take 1 (List.drop 0 [V.str m]))) = (keepM (L.take (j + 1)) p.2.marks).map V.str := by
                  have hn : nrL ((keepM (L.take j) p.2.marks).map V.str ++ [V.str m]) := (nrL_append _ _).2 ⟨nr_strs _, ⟨trivial, trivial⟩⟩
                  have e : List.take 1 (List.drop 0 [V.str m]) = [V.str m] := rfl
                  rw [List.drop_zero, List.take_of_length_le (by omega), hks2, List.map_append, e, kill_nrL 3 hn, kill_nrL 4 hn]
                  rfl
                have he1 : (keepM (L.take (j + 1)) p.2.marks).length = (keepM (L.take j) p.2.marks).length + (List.take 1 (List.drop 0 [V.str m])).length := by rw [hks2]; simp
                conv => whnf
                repeat' (first | (refine brd_t (by first | assumption | omega) ?_; conv => whnf) | (refine brd_f (by first | assumption | omega) ?_; conv => whnf) | (refine ask (by first | assumption | omega) ?_; conv => whnf) | (refine fit64 (by omega) ?_; conv => whnf) | (refine fit (by simp only [kmin, kmax]; omega) ?_; conv => whnf) | (refine br_t (by assumption) ?_; conv => whnf) | (refine br_f (by assumption) ?_; conv => whnf) | (refine get_of (by assumption) ?_; conv => whnf) | (refine get_map (by assumption) ?_; conv => whnf) | (refine ask (Nat.le_refl 1) ?_; conv => whnf) | (refine ask ⟨?_, ?_, ?_⟩ ?_; omega; (show _ + 1 ≤ 9223372036854775807; omega); (show (_ + 1) * 16 ≤ 140737488355328; omega); conv => whnf) | (refine draw_lex hE ?_ ?_; decide +kernel; conv => whnf) | (refine draw_any hE [⟨0, [(0, none), (1, none), (2, none), (3, none), (4, none), (5, none), (6, none), (7, none), (8, none), (9, none), (10, none), (11, none), (12, none), (13, none)], none, [], [[]]⟩] ?_ ?_; decide +kernel; conv => whnf) | (refine draw_any hE [⟨0, [(0, none), (1, none), (2, none), (3, none), (4, none), (5, none), (6, none), (7, none), (8, none), (9, none), (10, none), (11, none), (12, none), (13, none), (14, none)], some 15, [], [[]]⟩] ?_ ?_; decide +kernel; conv => whnf) | (refine brd (fun h => ?_) (fun h => ?_) <;> conv => whnf) | (refine br (fun h => ?_) (fun h => ?_) <;> conv => whnf) | (refine ret_now hE ?_; conv => whnf) | (intro hlen; conv => whnf) | (refine seg_here ?_; conv => whnf) | (refine both ?_ ?_ <;> conv => whnf))
                refine next_drop [0, 7, 8, 16, 17, 18, 78, 79, 117, 118, 119] [4] (j + 1) hjlt (show L.length - (j + 1) < L.length - j by omega) ?_
                conv => whnf
                rw [hks, hks, hkn, hkn, ha4, ← he1]
                rfl
              · rw [decide_eq_false hmm] at hbit
                have hbit : ¬ bitAnd .i64 ((((setB (hasM L p.2.marks) : Nat) : Int)).fdiv (2 ^ (min ((j : Int)).toNat IntKind.i64.bits))) 1 = 1 := by rw [hbit]; decide
                rw [if_neg hmm, List.append_nil] at hks2
                conv => whnf
                repeat' (first | (refine brd_t (by first | assumption | omega) ?_; conv => whnf) | (refine brd_f (by first | assumption | omega) ?_; conv => whnf) | (refine ask (by first | assumption | omega) ?_; conv => whnf) | (refine fit64 (by omega) ?_; conv => whnf) | (refine fit (by simp only [kmin, kmax]; omega) ?_; conv => whnf) | (refine br_t (by assumption) ?_; conv => whnf) | (refine br_f (by assumption) ?_; conv => whnf) | (refine get_of (by assumption) ?_; conv => whnf) | (refine get_map (by assumption) ?_; conv => whnf) | (refine draw_lex hE ?_ ?_; decide +kernel; conv => whnf) | (refine draw_any hE [⟨0, [(0, none), (1, none), (2, none), (3, none), (4, none), (5, none), (6, none), (7, none), (8, none), (9, none), (10, none), (11, none), (12, none), (13, none)], none, [], [[]]⟩] ?_ ?_; decide +kernel; conv => whnf) | (refine draw_any hE [⟨0, [(0, none), (1, none), (2, none), (3, none), (4, none), (5, none), (6, none), (7, none), (8, none), (9, none), (10, none), (11, none), (12, none), (13, none), (14, none)], some 15, [], [[]]⟩] ?_ ?_; decide +kernel; conv => whnf) | (refine brd (fun h => ?_) (fun h => ?_) <;> conv => whnf) | (refine br (fun h => ?_) (fun h => ?_) <;> conv => whnf) | (refine ret_now hE ?_; conv => whnf) | (intro hlen; conv => whnf) | (refine seg_here ?_; conv => whnf) | (refine both ?_ ?_ <;> conv => whnf))
                refine next_keep [0, 7, 8, 16, 17, 18, 78, 79, 117, 118, 119] (j + 1) hjlt (show L.length - (j + 1) < L.length - j by omega) ?_
                simp only [hks2]
                rfl
            · have hK : keepM (L.take j) p.2.marks = keepM L p.2.marks := by rw [List.take_of_length_le (by omega)]
              rw [hK] at hkl hkm ⊢
              generalize keepM L p.2.marks = K at hkl hkm hou ⊢
              have hnK : nrL (killL 0 (K.map V.str)) := by rw [kill_nrL 0 (nr_strs K)]; exact nr_strs K
              have hnK1 : nrL (killL 1 (K.map V.str)) := by rw [kill_nrL 1 (nr_strs K)]; exact nr_strs K
              have hadd : killL 4 (killL 2 (frzL 3 (killL 1 (K.map V.str)) (killL 1 (List.take (outB L l i).length (List.drop 0 ((outB L l i).map rnA)) ++ List.take 1 (List.drop 0 [V.agg [.str [p.1], .sl 3 0 K.length]]))))) = (outB L l i ++ [(⟨[p.1], K⟩ : Rn)]).map rnA := by
                have e : List.take 1 (List.drop 0 [V.agg [.str [p.1], .sl 3 0 K.length]]) = [V.agg [.str [p.1], .sl 3 0 K.length]] := rfl
                have e2 : killL 1 [V.agg [.str [p.1], .sl 3 0 K.length]] = [V.agg [.str [p.1], .sl 3 0 K.length]] := rfl
                rw [List.drop_zero, List.take_of_length_le (by omega), e, killL_append, e2, kill_nrL 1 (nr_strs K), hkn, frzL_ap, frz_nrL _ _ (nr_rn _), frz_run]
                have e3 : (outB L l i).map rnA ++ [rnA ⟨[p.1], K⟩] = (outB L l i ++ [(⟨[p.1], K⟩ : Rn)]).map rnA := by rw [List.map_append]; rfl
                rw [e3, kill_nrL 2 (nr_rn _), kill_nrL 4 (nr_rn _)]
              have hlen1 : (outB L l i).length + (List.take 1 (List.drop 0 [V.agg [.str [p.1], .sl 3 0 K.length]])).length = (outB L l i ++ [(⟨[p.1], K⟩ : Rn)]).length := by simp
              conv => whnf
              repeat' (first | (refine brd_t (by first | assumption | omega) ?_; conv => whnf) | (refine brd_f (by first | assumption | omega) ?_; conv => whnf) | (refine ask (by first | assumption | omega) ?_; conv => whnf) | (refine fit64 (by omega) ?_; conv => whnf) | (refine fit (by simp only [kmin, kmax]; omega) ?_; conv => whnf) | (refine br_t (by assumption) ?_; conv => whnf) | (refine br_f (by assumption) ?_; conv => whnf) | (refine get_of (by assumption) ?_; conv => whnf) | (refine get_map (by assumption) ?_; conv => whnf) | (refine ask (Nat.le_refl 1) ?_; conv => whnf) | (refine ask ⟨?_, ?_, ?_⟩ ?_; omega; (show _ + 1 ≤ 9223372036854775807; omega); (show (_ + 1) * 40 ≤ 140737488355328; omega); conv => whnf) | (refine draw_lex hE ?_ ?_; decide +kernel; conv => whnf) | (refine draw_any hE [⟨0, [(0, none), (1, none), (2, none), (3, none), (4, none), (5, none), (6, none), (7, none), (8, none), (9, none), (10, none), (11, none), (12, none), (13, none)], none, [], [[]]⟩] ?_ ?_; decide +kernel; conv => whnf) | (refine draw_any hE [⟨0, [(0, none), (1, none), (2, none), (3, none), (4, none), (5, none), (6, none), (7, none), (8, none), (9, none), (10, none), (11, none), (12, none), (13, none), (14, none)], some 15, [], [[]]⟩] ?_ ?_; decide +kernel; conv => whnf) | (refine brd (fun h => ?_) (fun h => ?_) <;> conv => whnf) | (refine br (fun h => ?_) (fun h => ?_) <;> conv => whnf) | (refine ret_now hE ?_; conv => whnf) | (intro hlen; conv => whnf) | (refine seg_here ?_; conv => whnf) | (refine both ?_ ?_ <;> conv => whnf))
              refine up_freeze 3 (z := 1) (els := killL 1 (K.map V.str)) rfl hnK1 (next_drop [0, 7, 8, 16, 78, 79] [2, 4] (i + 1) hilt (show sumT l - (i + 1) < sumT l - i by omega) ?_)
              conv => whnf
              rw [hadd, hlen1, hou, hks, frz_nrL _ _ (nr_setsL L l), hks, hks]
              rfl
          · conv => whnf
            repeat' (first | (refine brd_t (by first | assumption | omega) ?_; conv => whnf) | (refine brd_f (by first | assumption | omega) ?_; conv => whnf) | (refine ask (by first | assumption | omega) ?_; conv => whnf) | (refine fit64 (by omega) ?_; conv => whnf) | (refine fit (by simp only [kmin, kmax]; omega) ?_; conv => whnf) | (refine br_t (by assumption) ?_; conv => whnf) | (refine br_f (by assumption) ?_; conv => whnf) | (refine get_of (by assumption) ?_; conv => whnf) | (refine get_map (by assumption) ?_; conv => whnf) | (rw [hcut]; conv => whnf) | (refine draw_lex hE ?_ ?_; decide +kernel; conv => whnf) | (refine draw_any hE [⟨0, [(0, none), (1, none), (2, none), (3, none), (4, none), (5, none), (6, none), (7, none), (8, none), (9, none), (10, none), (11, none), (12, none), (13, none)], none, [], [[]]⟩] ?_ ?_; decide +kernel; conv => whnf) | (refine draw_any hE [⟨0, [(0, none), (1, none), (2, none), (3, none), (4, none), (5, none), (6, none), (7, none), (8, none), (9, none), (10, none), (11, none), (12, none), (13, none), (14, none)], some 15, [], [[]]⟩] ?_ ?_; decide +kernel; conv => whnf) | (refine brd (fun h => ?_) (fun h => ?_) <;> conv => whnf) | (refine br (fun h => ?_) (fun h => ?_) <;> conv => whnf) | (refine ret_now hE ?_; conv => whnf) | (intro hlen; conv => whnf) | (refine seg_here ?_; conv => whnf) | (refine both ?_ ?_ <;> conv => whnf))
            refine loopE (fun j : Nat => ⟨145, [(0, .lst (L.map V.str)), (7, .sl 0 0 (setsL L l).length), (8, .str (txtL l)), (16, .sl 1 0 (outB L l i).length), (17, .int .i64 i), (18, .ptr 2 0 0), (78, .int .i64 (txtL l).length), (79, .int .i64 i), (117, .lst (L.map V.str)), (118, .int .i64 (L.map V.str).length), (119, .int .i64 j)],
                [some (.row 1 (setsL L l)), some (.row 2 ((outB L l i).map rnA)), some (.row 2 [.agg [.str [p.1], .sl 3 0 (keepM (L.take j) p.2.marks).length]]), some (.row 1 ((keepM (L.take j) p.2.marks).map V.str))]⟩)
              (fun j => j ≤ L.length) (fun j => L.length - j) 0 hE ?_ ?_ (Nat.zero_le _) ?_
            · kernel_rfl
            · exact up_ownF 2 1 1 (z := 2) (l := [.str [p.1], .nils]) rfl rfl (at_keep [0, 7, 8, 16, 17, 18, 78, 79, 117, 118, 119] rfl)
            intro j hjL
            have hkl := keepM_len (L.take j) p.2.marks
            have hkm : ((keepM (L.take j) p.2.marks).map V.str).length = (keepM (L.take j) p.2.marks).length := by simp
            have hlt2 : (L.take j).length ≤ j := by simp; omega
            by_cases hjlt : j < L.length
            · obtain ⟨m, hm⟩ : ∃ m, L[j]? = some m := ⟨_, List.getElem?_eq_getElem hjlt⟩
              have hks2 := keepM_step (ms := p.2.marks) hm
              have hbit := setB_bit (hasM L p.2.marks) j (by omega)
              rw [hasM_at hm] at hbit
              by_cases hmm : m ∈ p.2.marks
              · rw [decide_eq_true hmm] at hbit
                have hbit : bitAnd .i64 ((((setB (hasM L p.2.marks) : Nat) : Int)).fdiv (2 ^ (min ((j : Int)).toNat IntKind.i64.bits))) 1 = 1 := hbit
                rw [if_pos hmm] at hks2
                have ha4 : killL 4 (killL 3 (List.take (keepM (L.take j) p.2.marks).length (List.drop 0 ((keepM (L.take j) p.2.marks).map V.str)) ++ List.take 1 (List.drop 0 [V.str m]))) = (keepM (L.take (j + 1)) p.2.marks).map V.str := by
                  have hn : nrL ((keepM (L.take j) p.2.marks).map V.str ++ [V.str m]) := (nrL_append _ _).2 ⟨nr_strs _, ⟨trivial, trivial⟩⟩
                  have e : List.take 1 (List.drop 0 [V.str m]) = [V.str m] := rfl
                  rw [List.drop_zero, List.take_of_length_le (by omega), hks2, List.map_append, e, kill_nrL 3 hn, kill_nrL 4 hn]
                  rfl
                have he1 : (keepM (L.take (j + 1)) p.2.marks).length = (keepM (L.take j) p.2.marks).length + (List.take 1 (List.drop 0 [V.str m])).length := by rw [hks2]; simp
                conv => whnf
                repeat' (first | (refine brd_t (by first | assumption | omega) ?_; conv => whnf) | (refine brd_f (by first | assumption | omega) ?_; conv => whnf) | (refine ask (by first | assumption | omega) ?_; conv => whnf) | (refine fit64 (by omega) ?_; conv => whnf) | (refine fit (by simp only [kmin, kmax]; omega) ?_; conv => whnf) | (refine br_t (by assumption) ?_; conv => whnf) | (refine br_f (by assumption) ?_; conv => whnf) | (refine get_of (by assumption) ?_; conv => whnf) | (refine get_map (by assumption) ?_; conv => whnf) | (refine ask (Nat.le_refl 1) ?_; conv => whnf) | (refine ask ⟨?_, ?_, ?_⟩ ?_; omega; (show _ + 1 ≤ 9223372036854775807; omega); (show (_ + 1) * 16 ≤ 140737488355328; omega); conv => whnf) | (refine draw_lex hE ?_ ?_; decide +kernel; conv => whnf) | (refine draw_any hE [⟨0, [(0, none), (1, none), (2, none), (3, none), (4, none), (5, none), (6, none), (7, none), (8, none), (9, none), (10, none), (11, none), (12, none), (13, none)], none, [], [[]]⟩] ?_ ?_; decide +kernel; conv => whnf) | (refine draw_any hE [⟨0, [(0, none), (1, none), (2, none), (3, none), (4, none), (5, none), (6, none), (7, none), (8, none), (9, none), (10, none), (11, none), (12, none), (13, none), (14, none)], some 15, [], [[]]⟩] ?_ ?_; decide +kernel; conv => whnf) | (refine brd (fun h => ?_) (fun h => ?_) <;> conv => whnf) | (refine br (fun h => ?_) (fun h => ?_) <;> conv => whnf) | (refine ret_now hE ?_; conv => whnf) | (intro hlen; conv => whnf) | (refine seg_here ?_; conv => whnf) | (refine both ?_ ?_ <;> conv => whnf))
                refine next_drop [0, 7, 8, 16, 17, 18, 78, 79, 117, 118, 119] [4] (j + 1) hjlt (show L.length - (j + 1) < L.length - j by omega) ?_
                conv => whnf
                rw [hks, hks, hkn, hkn, ha4, ← he1]
                rfl
              · rw [decide_eq_false hmm] at hbit
                have hbit : ¬ bitAnd .i64 ((((setB (hasM L p.2.marks) : Nat) : Int)).fdiv (2 ^ (min ((j : Int)).toNat IntKind.i64.bits))) 1 = 1 := by rw [hbit]; decide
                rw [if_neg hmm, List.append_nil] at hks2
                conv => whnf
                repeat' (first | (refine brd_t (by first | assumption | omega) ?_; conv => whnf) | (refine brd_f (by first | assumption | omega) ?_; conv => whnf) | (refine ask (by first | assumption | omega) ?_; conv => whnf) | (refine fit64 (by omega) ?_; conv => whnf) | (refine fit (by simp only [kmin, kmax]; omega) ?_; conv => whnf) | (refine br_t (by assumption) ?_; conv => whnf) | (refine br_f (by assumption) ?_; conv => whnf) | (refine get_of (by assumption) ?_; conv => whnf) | (refine get_map (by assumption) ?_; conv => whnf) | (refine draw_lex hE ?_ ?_; decide +kernel; conv => whnf) | (refine draw_any hE [⟨0, [(0, none), (1, none), (2, none), (3, none), (4, none), (5, none), (6, none), (7, none), (8, none), (9, none), (10, none), (11, none), (12, none), (13, none)], none, [], [[]]⟩] ?_ ?_; decide +kernel; conv => whnf) | (refine draw_any hE [⟨0, [(0, none), (1, none), (2, none), (3, none), (4, none), (5, none), (6, none), (7, none), (8, none), (9, none), (10, none), (11, none), (12, none), (13, none), (14, none)], some 15, [], [[]]⟩] ?_ ?_; decide +kernel; conv => whnf) | (refine brd (fun h => ?_) (fun h => ?_) <;> conv => whnf) | (refine br (fun h => ?_) (fun h => ?_) <;> conv => whnf) | (refine ret_now hE ?_; conv => whnf) | (intro hlen; conv => whnf) | (refine seg_here ?_; conv => whnf) | (refine both ?_ ?_ <;> conv => whnf))
                refine next_keep [0, 7, 8, 16, 17, 18, 78, 79, 117, 118, 119] (j + 1) hjlt (show L.length - (j + 1) < L.length - j by omega) ?_
                simp only [hks2]
                rfl
            · have hK : keepM (L.take j) p.2.marks = keepM L p.2.marks := by rw [List.take_of_length_le (by omega)]
              rw [hK] at hkl hkm ⊢
              generalize keepM L p.2.marks = K at hkl hkm hou ⊢
              have hnK : nrL (killL 0 (K.map V.str)) := by rw [kill_nrL 0 (nr_strs K)]; exact nr_strs K
              have hnK1 : nrL (killL 1 (K.map V.str)) := by rw [kill_nrL 1 (nr_strs K)]; exact nr_strs K
              have hadd : killL 4 (killL 2 (frzL 3 (killL 1 (K.map V.str)) (killL 1 (List.take (outB L l i).length (List.drop 0 ((outB L l i).map rnA)) ++ List.take 1 (List.drop 0 [V.agg [.str [p.1], .sl 3 0 K.length]]))))) = (outB L l i ++ [(⟨[p.1], K⟩ : Rn)]).map rnA := by
                have e : List.take 1 (List.drop 0 [V.agg [.str [p.1], .sl 3 0 K.length]]) = [V.agg [.str [p.1], .sl 3 0 K.length]] := rfl
                have e2 : killL 1 [V.agg [.str [p.1], .sl 3 0 K.length]] = [V.agg [.str [p.1], .sl 3 0 K.length]] := rfl
                rw [List.drop_zero, List.take_of_length_le (by omega), e, killL_append, e2, kill_nrL 1 (nr_strs K), hkn, frzL_ap, frz_nrL _ _ (nr_rn _), frz_run]
                have e3 : (outB L l i).map rnA ++ [rnA ⟨[p.1], K⟩] = (outB L l i ++ [(⟨[p.1], K⟩ : Rn)]).map rnA := by rw [List.map_append]; rfl
                rw [e3, kill_nrL 2 (nr_rn _), kill_nrL 4 (nr_rn _)]
              have hlen1 : (outB L l i).length + (List.take 1 (List.drop 0 [V.agg [.str [p.1], .sl 3 0 K.length]])).length = (outB L l i ++ [(⟨[p.1], K⟩ : Rn)]).length := by simp
              conv => whnf
              repeat' (first | (refine brd_t (by first | assumption | omega) ?_; conv => whnf) | (refine brd_f (by first | assumption | omega) ?_; conv => whnf) | (refine ask (by first | assumption | omega) ?_; conv => whnf) | (refine fit64 (by omega) ?_; conv => whnf) | (refine fit (by simp only [kmin, kmax]; omega) ?_; conv => whnf) | (refine br_t (by assumption) ?_; conv => whnf) | (refine br_f (by assumption) ?_; conv => whnf) | (refine get_of (by assumption) ?_; conv => whnf) | (refine get_map (by assumption) ?_; conv => whnf) | (refine ask (Nat.le_refl 1) ?_; conv => whnf) | (refine ask ⟨?_, ?_, ?_⟩ ?_; omega; (show _ + 1 ≤ 9223372036854775807; omega); (show (_ + 1) * 40 ≤ 140737488355328; omega); conv => whnf) | (refine draw_lex hE ?_ ?_; decide +kernel; conv => whnf) | (refine draw_any hE [⟨0, [(0, none), (1, none), (2, none), (3, none), (4, none), (5, none), (6, none), (7, none), (8, none), (9, none), (10, none), (11, none), (12, none), (13, none)], none, [], [[]]⟩] ?_ ?_; decide +kernel; conv => whnf) | (refine draw_any hE [⟨0, [(0, none), (1, none), (2, none), (3, none), (4, none), (5, none), (6, none), (7, none), (8, none), (9, none), (10, none), (11, none), (12, none), (13, none), (14, none)], some 15, [], [[]]⟩] ?_ ?_; decide +kernel; conv => whnf) | (refine brd (fun h => ?_) (fun h => ?_) <;> conv => whnf) | (refine br (fun h => ?_) (fun h => ?_) <;> conv => whnf) | (refine ret_now hE ?_; conv => whnf) | (intro hlen; conv => whnf) | (refine seg_here ?_; conv => whnf) | (refine both ?_ ?_ <;> conv => whnf))
              refine up_freeze 3 (z := 1) (els := killL 1 (K.map V.str)) rfl hnK1 (next_drop [0, 7, 8, 16, 78, 79] [2, 4] (i + 1) hilt (show sumT l - (i + 1) < sumT l - i by omega) ?_)
              conv => whnf
              rw [hadd, hlen1, hou, hks, frz_nrL _ _ (nr_setsL L l), hks, hks]
              rfl
      · have hie : i = sumT l := by omega
        conv => whnf
        repeat' (first | (refine brd_t (by first | assumption | omega) ?_; conv => whnf) | (refine brd_f (by first | assumption | omega) ?_; conv => whnf) | (refine ask (by first | assumption | omega) ?_; conv => whnf) | (refine fit64 (by omega) ?_; conv => whnf) | (refine fit (by simp only [kmin, kmax]; omega) ?_; conv => whnf) | (refine br_t (by assumption) ?_; conv => whnf) | (refine br_f (by assumption) ?_; conv => whnf) | (refine get_of (by assumption) ?_; conv => whnf) | (refine get_map (by assumption) ?_; conv => whnf) | (refine ret_up (up_frzK 1 4 [5] rfl (nr_rn _) rfl (by omega) rfl (up_here ?_))) | (refine draw_lex hE ?_ ?_; decide +kernel; conv => whnf) | (refine draw_any hE [⟨0, [(0, none), (1, none), (2, none), (3, none), (4, none), (5, none), (6, none), (7, none), (8, none), (9, none), (10, none), (11, none), (12, none), (13, none)], none, [], [[]]⟩] ?_ ?_; decide +kernel; conv => whnf) | (refine draw_any hE [⟨0, [(0, none), (1, none), (2, none), (3, none), (4, none), (5, none), (6, none), (7, none), (8, none), (9, none), (10, none), (11, none), (12, none), (13, none), (14, none)], some 15, [], [[]]⟩] ?_ ?_; decide +kernel; conv => whnf) | (refine brd (fun h => ?_) (fun h => ?_) <;> conv => whnf) | (refine br (fun h => ?_) (fun h => ?_) <;> conv => whnf) | (refine ret_now hE ?_; conv => whnf) | (intro hlen; conv => whnf) | (refine seg_here ?_; conv => whnf) | (refine both ?_ ?_ <;> conv => whnf))
        refine ⟨rfl, ?_⟩
        rw [hrN, normV_ok hall, hie, outB_all]
        simp only [V.nl, nlL, nl_rnL]
  · refine fn1E (T := Tryd.tt) Tryd.func20 rfl tt_all follows_all ?_ ?_ fun C hC hE => ?_
    · kernel_rfl
    · exact Nat.le_of_ble_eq_true (by kernel_rfl)
    conv => whnf
    repeat' (first | (refine brd_t (by first | assumption | omega) ?_; conv => whnf) | (refine brd_f (by first | assumption | omega) ?_; conv => whnf) | (refine ask (by first | assumption | omega) ?_; conv => whnf) | (refine fit64 (by omega) ?_; conv => whnf) | (refine fit (by simp only [kmin, kmax]; omega) ?_; conv => whnf) | (refine br_t (by assumption) ?_; conv => whnf) | (refine br_f (by assumption) ?_; conv => whnf) | (refine get_of (by assumption) ?_; conv => whnf) | (refine get_map (by assumption) ?_; conv => whnf) | (refine call_eq (hf) hC hasBody_54 ?_ ?_ ?_; kernel_rfl; kernel_rfl; conv => whnf) | (refine callq_eq (hf) hC hasBody_54 ?_ ?_ ?_; kernel_rfl; kernel_rfl; conv => whnf) | (refine draw_lex hE ?_ ?_; decide +kernel; conv => whnf) | (refine draw_any hE [⟨0, [(0, none), (1, none), (2, none), (3, none), (4, none), (5, none), (6, none), (7, none), (8, none), (9, none), (10, none), (11, none), (12, none), (13, none)], none, [], [[]]⟩] ?_ ?_; decide +kernel; conv => whnf) | (refine draw_any hE [⟨0, [(0, none), (1, none), (2, none), (3, none), (4, none), (5, none), (6, none), (7, none), (8, none), (9, none), (10, none), (11, none), (12, none), (13, none), (14, none)], some 15, [], [[]]⟩] ?_ ?_; decide +kernel; conv => whnf) | (refine brd (fun h => ?_) (fun h => ?_) <;> conv => whnf) | (refine br (fun h => ?_) (fun h => ?_) <;> conv => whnf) | (refine ret_now hE ?_; conv => whnf) | (intro hlen; conv => whnf) | (refine seg_here ?_; conv => whnf) | (refine both ?_ ?_ <;> conv => whnf))
    refine ⟨rfl, ?_⟩
    unfold refN
    rw [hc, if_neg hc0]
    rfl
end Go.Proofs.YtkkcmobnhiiacaaDoor
