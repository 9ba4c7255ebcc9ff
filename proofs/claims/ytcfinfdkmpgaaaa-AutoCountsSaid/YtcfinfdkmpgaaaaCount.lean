/- auto.Count and the document's AutoCount, walked. No conditions. (under way) -/
import Derived.Test.YtcfinfdkmpgaaaaCountLaw
import Derived.Test.YtcfinfdkmpgaaaaAwz
set_option linter.unusedSimpArgs false
set_option linter.unusedVariables false
set_option maxRecDepth 100000
namespace Go.Proofs.Ytcfinfdkmpgaaaa
open Go.RowKit

/-- What both answer: the number of words of a length from state 0 to a final state. -/
def endsF (T : List (List Int)) (F : List Bool) : Nat → List Int
  | 0 => F.map fun b => if b then 1 else 0
  | k + 1 => T.map fun row => (row.map fun to => if 0 ≤ to then (endsF T F k).getD to.toNat 0 else 0).sum
def countR (T : List (List Int)) (F : List Bool) (long : Int) : V :=
  if mayOk T F = false then .tup [.int .i64 0, .int .i64 4] else if long < 0 ∨ 12 < long then .tup [.int .i64 0, .int .i64 2] else .tup [.int .i64 ((endsF T F long.toNat).getD 0 0), .int .i64 0]
theorem mayOk_true {T : List (List Int)} {F : List Bool} (h : mayOk T F = true) : 1 ≤ T.length ∧ T.length ≤ 40 ∧ F.length = T.length ∧ ∀ r ∈ T, badRow T.length r = false := by
  simp [mayOk] at h
  exact ⟨h.1.1.1, h.1.1.2, h.1.2, h.2⟩
theorem endsF_length {T : List (List Int)} {F : List Bool} (h : F.length = T.length) : ∀ k, (endsF T F k).length = T.length
  | 0 => by simp [endsF, h]
  | k + 1 => by simp [endsF]
theorem dot_one {n : Nat} (hn : 1 ≤ n) {e : List Int} (he : e.length = n) : dot (addAt (List.replicate n 0) 0 1) e = e.getD 0 0 := by
  rw [dot_add _ _ _ _ (by simp; omega) (by simp [he]), dot_zero]
  omega
theorem mv_i64 (a b : Nat) : ∀ L : List Int, mvL a b (L.map (V.int .i64)) = L.map (V.int .i64)
  | [] => by simp [mvL]
  | x :: L => by simp [mvL, V.mv, mv_i64 a b L]
theorem nr_i64 : ∀ L : List Int, nrL (L.map (V.int .i64))
  | [] => trivial
  | x :: L => ⟨trivial, nr_i64 L⟩
set_option maxHeartbeats 8000000 in
theorem auto_count (T : List (List Int)) (F : List Bool) (long : Int) : Fn1 Try.prog 14 [autoV T F, .int .i64 long] (fun r => r = countR T F long) := by
  have hTm : (T.map ints).length = T.length := by simp
  have hFm : (F.map V.bool).length = F.length := by simp
  have hm := may T F
  cases hb : mayOk T F with
  | false =>
    rw [hb] at hm
    refine fn1E (T := Try.tt) Try.func14 rfl tt_all follows_all ?_ ?_ fun C hC hE => ?_
    · kernel_rfl
    · exact Nat.le_of_ble_eq_true (by kernel_rfl)
    conv => whnf
    repeat' (first | (refine brd_t (by first | assumption | omega) ?_; conv => whnf) | (refine brd_f (by first | assumption | omega) ?_; conv => whnf) | (refine ask (by first | assumption | omega) ?_; conv => whnf) | (refine fit64 (by omega) ?_; conv => whnf) | (refine fit (by simp only [kmin, kmax]; omega) ?_; conv => whnf) | (refine br_t (by assumption) ?_; conv => whnf) | (refine br_f (by assumption) ?_; conv => whnf) | (refine get_of (by assumption) ?_; conv => whnf) | (refine get_map (by assumption) ?_; conv => whnf) | (refine call_eq (hm) hC hasBody_37 ?_ ?_ ?_; kernel_rfl; kernel_rfl; conv => whnf) | (refine callq_eq (hm) hC hasBody_37 ?_ ?_ ?_; kernel_rfl; kernel_rfl; conv => whnf) | (refine brd (fun h => ?_) (fun h => ?_) <;> conv => whnf) | (refine br (fun h => ?_) (fun h => ?_) <;> conv => whnf) | (refine ret_now hE ?_; conv => whnf) | (intro hlen; conv => whnf))
    exact ⟨rfl, by unfold countR; rw [if_pos hb]⟩
  | true =>
    rw [hb] at hm
    obtain ⟨h1, h40, hF, hrow⟩ := mayOk_true hb
    have hrep : (List.replicate (((T.map ints).length : Nat) : Int).toNat (V.int .i64 0))[0 + Int.toNat 0]? = some (.int .i64 0) := by rw [List.getElem?_replicate, if_pos (by show 0 + 0 < (T.map ints).length; omega)]
    refine fn1E (T := Try.tt) Try.func14 rfl tt_all follows_all ?_ ?_ fun C hC hE => ?_
    · kernel_rfl
    · exact Nat.le_of_ble_eq_true (by kernel_rfl)
    conv => whnf
    repeat' (first | (refine brd_t (by first | assumption | omega) ?_; conv => whnf) | (refine brd_f (by first | assumption | omega) ?_; conv => whnf) | (refine ask (by first | assumption | omega) ?_; conv => whnf) | (refine fit64 (by omega) ?_; conv => whnf) | (refine fit (by simp only [kmin, kmax]; omega) ?_; conv => whnf) | (refine br_t (by assumption) ?_; conv => whnf) | (refine br_f (by assumption) ?_; conv => whnf) | (refine get_of (by assumption) ?_; conv => whnf) | (refine get_map (by assumption) ?_; conv => whnf) | (refine call_eq (hm) hC hasBody_37 ?_ ?_ ?_; kernel_rfl; kernel_rfl; conv => whnf) | (refine callq_eq (hm) hC hasBody_37 ?_ ?_ ?_; kernel_rfl; kernel_rfl; conv => whnf) | (refine ask ⟨?_, ?_, ?_, ?_⟩ ?_; omega; omega; omega; omega; conv => whnf) | (refine get_of hrep ?_; conv => whnf) | (refine brd (fun h => ?_) (fun h => ?_) <;> conv => whnf) | (refine br (fun h => ?_) (fun h => ?_) <;> conv => whnf) | (refine ret_now hE ?_; conv => whnf) | (intro hlen; conv => whnf))
    · exact ⟨rfl, by unfold countR; rw [if_neg (by simp [hb]), if_pos (.inl (by assumption))]⟩
    · exact ⟨rfl, by unfold countR; rw [if_neg (by simp [hb]), if_pos (.inr (by assumption))]⟩
    have hwl : (List.set (List.replicate (((T.map ints).length : Nat) : Int).toNat (V.int .i64 0)) (0 + Int.toNat 0) (V.int .i64 1)) = (addAt (List.replicate T.length 0) 0 1).map (V.int .i64) := by
      rw [hTm, Int.toNat_natCast]
      unfold addAt
      rw [List.map_set, List.map_replicate]
      congr 1
      cases hT : T.length with
      | zero => omega
      | succ n => simp [List.replicate_succ]
    refine loopE (fun ((k, W) : Nat × List Int) => ⟨85, [(2, .rp [.lst (T.map ints), .lst (F.map V.bool)]), (6, .sl 0 0 W.length), (32, .int .i64 long), (33, .int .i64 k)], [some (.row 1 (W.map (V.int .i64)))]⟩)
      (fun (k, W) => k ≤ long.toNat ∧ W.length = T.length ∧ (∀ x ∈ W, 0 ≤ x) ∧ dot W (List.replicate W.length 1) ≤ 8 ^ k ∧ dot W (endsF T F (long.toNat - k)) = (endsF T F long.toNat).getD 0 0) (fun (k, _) => long.toNat - k) (0, addAt (List.replicate T.length 0) 0 1) hE ?_ ?_ ?_ ?_
    · kernel_rfl
    · refine up_freeze 0 (z := 2) (els := [autoV T F]) rfl ⟨⟨trivial, trivial, trivial⟩, trivial⟩ (up_move 1 0 (by decide) rfl rfl ?_)
      refine at_drop [2, 6, 32, 33] [] ?_
      conv => whnf
      rw [hwl, frz_nrL _ _ (nr_i64 _), mv_i64]
      show _ = (⟨85, [(2, .rp [.lst (T.map ints), .lst (F.map V.bool)]), (6, .sl 0 0 (addAt (List.replicate T.length 0) 0 1).length), (32, .int .i64 long), (33, .int .i64 0)], [some (.row 1 ((addAt (List.replicate T.length 0) 0 1).map (V.int .i64)))]⟩ : ES)
      rw [addAt_length, List.length_replicate, ← hTm]
      rfl
    · refine ⟨Nat.zero_le _, by simp [addAt_length], addAt_nonneg (by simp) (by decide), ?_, ?_⟩
      · rw [dot_one h1 (by simp [addAt_length])]
        rw [addAt_length, List.length_replicate]
        cases hT : T.length with
        | zero => omega
        | succ n => simp [List.replicate_succ]
      · rw [dot_one h1 (endsF_length hF _), Nat.sub_zero]
    · rintro ⟨k, W⟩ ⟨hk, hW, hpos, hsum, hdot⟩
      have hWm : (W.map (V.int .i64)).length = W.length := by simp
      by_cases hlt : k < long.toNat
      · conv => whnf
        repeat' (first | (refine brd_t (by first | assumption | omega) ?_; conv => whnf) | (refine brd_f (by first | assumption | omega) ?_; conv => whnf) | (refine ask (by first | assumption | omega) ?_; conv => whnf) | (refine fit64 (by omega) ?_; conv => whnf) | (refine fit (by simp only [kmin, kmax]; omega) ?_; conv => whnf) | (refine br_t (by assumption) ?_; conv => whnf) | (refine br_f (by assumption) ?_; conv => whnf) | (refine get_of (by assumption) ?_; conv => whnf) | (refine get_map (by assumption) ?_; conv => whnf) | (refine ask ⟨?_, ?_, ?_, ?_⟩ ?_; omega; omega; omega; omega; conv => whnf) | (refine brd (fun h => ?_) (fun h => ?_) <;> conv => whnf) | (refine br (fun h => ?_) (fun h => ?_) <;> conv => whnf) | (refine ret_now hE ?_; conv => whnf) | (intro hlen; conv => whnf))
        have hWn : ((W.length : Nat) : Int).toNat = T.length := by omega
        refine loopE (fun ((i, N) : Nat × List Int) => ⟨85, [(2, .rp [.lst (T.map ints), .lst (F.map V.bool)]), (6, .sl 0 0 W.length), (7, .sl 1 0 N.length), (32, .int .i64 long), (33, .int .i64 k), (39, .lst (T.map ints)), (40, .int .i64 (T.map ints).length), (41, .int .i64 i)], [some (.row 1 (W.map (V.int .i64))), some (.row 1 (N.map (V.int .i64)))]⟩)
          (fun (i, N) => i ≤ T.length ∧ N.length = T.length ∧ (∀ x ∈ N, 0 ≤ x) ∧ ∀ e : List Int, e.length = T.length → dot N e = partS T W e i) (fun (i, _) => T.length - i) (0, List.replicate T.length 0) hE ?_ ?_ ⟨Nat.zero_le _, by simp, by simp, fun e he => by rw [dot_zero]; simp [partS, dot]⟩ ?_
        · kernel_rfl
        · refine at_keep [2, 6, 7, 32, 33, 39, 40, 41] ?_
          conv => whnf
          rw [hWn]
          simp only [List.length_replicate, List.map_replicate]
          rfl
        · rintro ⟨i, N⟩ ⟨hi, hN, hNp, hNd⟩
          have hNm : (N.map (V.int .i64)).length = N.length := by simp
          by_cases hil : i < T.length
          · obtain ⟨row, hr⟩ : ∃ x, T[i]? = some x := ⟨_, List.getElem?_eq_getElem hil⟩
            have hrm : (row.map (V.int .i64)).length = row.length := by simp
            obtain ⟨wi, hwi⟩ : ∃ x, W[i]? = some x := ⟨_, List.getElem?_eq_getElem (by omega)⟩
            have hgood : badRow T.length row = false := hrow row (List.mem_of_getElem? hr)
            have h8 : row.length = 8 ∧ ∀ x ∈ row, -1 ≤ x ∧ x < T.length := by
              unfold badRow at hgood
              simp at hgood
              refine ⟨by omega, fun x hx => ?_⟩
              have := hgood.2 x hx
              simp [badState] at this
              omega
            conv => whnf
            repeat' (first | (refine brd_t (by first | assumption | omega) ?_; conv => whnf) | (refine brd_f (by first | assumption | omega) ?_; conv => whnf) | (refine ask (by first | assumption | omega) ?_; conv => whnf) | (refine fit64 (by omega) ?_; conv => whnf) | (refine fit (by simp only [kmin, kmax]; omega) ?_; conv => whnf) | (refine br_t (by assumption) ?_; conv => whnf) | (refine br_f (by assumption) ?_; conv => whnf) | (refine get_of (by assumption) ?_; conv => whnf) | (refine get_map (by assumption) ?_; conv => whnf) | (refine brd (fun h => ?_) (fun h => ?_) <;> conv => whnf) | (refine br (fun h => ?_) (fun h => ?_) <;> conv => whnf) | (refine ret_now hE ?_; conv => whnf) | (intro hlen; conv => whnf))
            refine loopE (fun ((j, M) : Nat × List Int) => ⟨85, [(2, .rp [.lst (T.map ints), .lst (F.map V.bool)]), (6, .sl 0 0 W.length), (7, .sl 1 0 M.length), (8, .int .i64 i), (32, .int .i64 long), (33, .int .i64 k), (39, .lst (T.map ints)), (40, .int .i64 (T.map ints).length), (41, .int .i64 i), (46, ints row), (47, .int .i64 (row.map (V.int .i64)).length), (48, .int .i64 j)], [some (.row 1 (W.map (V.int .i64))), some (.row 1 (M.map (V.int .i64)))]⟩)
              (fun (j, M) => j ≤ row.length ∧ M.length = T.length ∧ (∀ x ∈ M, 0 ≤ x) ∧ ∀ e : List Int, e.length = T.length → dot M e = partS T W e i + wi * rowE e (row.take j)) (fun (j, _) => row.length - j) (0, N) hE ?_ ?_ ⟨Nat.zero_le _, hN, hNp, fun e he => by rw [hNd e he]; simp [rowE]⟩ ?_
            · kernel_rfl
            · exact at_keep [2, 6, 7, 8, 32, 33, 39, 40, 41, 46, 47, 48] rfl
            · rintro ⟨j, M⟩ ⟨hj, hM, hMp, hMd⟩
              have hMm : (M.map (V.int .i64)).length = M.length := by simp
              by_cases hjl : j < row.length
              · obtain ⟨x, hx⟩ : ∃ x, row[j]? = some x := ⟨_, List.getElem?_eq_getElem hjl⟩
                have hxb := h8.2 x (List.mem_of_getElem? hx)
                by_cases h0 : 0 ≤ x
                · obtain ⟨m, hm'⟩ : ∃ y, M[x.toNat]? = some y := ⟨_, List.getElem?_eq_getElem (by omega)⟩
                  have hw0 : 0 ≤ wi := hpos wi (List.mem_of_getElem? hwi)
                  have hm0 : 0 ≤ m := hMp m (List.mem_of_getElem? hm')
                  have h8k : (8 : Int) ^ k ≤ 68719476736 := by
                    have : k ≤ 12 := by omega
                    exact (by decide +kernel : ∀ k, k ≤ 12 → (8 : Int) ^ k ≤ 68719476736) k this
                  have hwi8 : wi ≤ 68719476736 := by
                    have := (entry_le W i hpos).1
                    rw [List.getD_eq_getElem?_getD, hwi] at this
                    simp at this
                    omega
                  have hm8 : m ≤ 1099511627776 := by
                    have h1' := (entry_le M x.toNat hMp).1
                    rw [List.getD_eq_getElem?_getD, hm'] at h1'
                    simp at h1'
                    rw [hMd _ (by simp [hM])] at h1'
                    have h2' := partS_ones (n := M.length) T W i (fun r hr => by have := hrow r hr; unfold badRow at this; simp at this; omega) hpos (by omega)
                    have h3' := (rowE_ones M.length (row.take j)).2
                    have h4' : wi * rowE (List.replicate M.length 1) (row.take j) ≤ wi * 8 := Int.mul_le_mul_of_nonneg_left (by rw [List.length_take] at h3'; omega) hw0
                    omega
                  have hMx : (M.map (V.int .i64))[0 + x.toNat]? = some (.int .i64 m) := by rw [Nat.zero_add, List.getElem?_map, hm']; rfl
                  have hWx : (W.map (V.int .i64))[0 + ((i : Nat) : Int).toNat]? = some (.int .i64 wi) := by rw [Nat.zero_add, Int.toNat_natCast, List.getElem?_map, hwi]; rfl
                  conv => whnf
                  repeat' (first | (refine brd_t (by first | assumption | omega) ?_; conv => whnf) | (refine brd_f (by first | assumption | omega) ?_; conv => whnf) | (refine ask (by first | assumption | omega) ?_; conv => whnf) | (refine fit64 (by omega) ?_; conv => whnf) | (refine fit (by simp only [kmin, kmax]; omega) ?_; conv => whnf) | (refine br_t (by assumption) ?_; conv => whnf) | (refine br_f (by assumption) ?_; conv => whnf) | (refine get_of (by assumption) ?_; conv => whnf) | (refine get_map (by assumption) ?_; conv => whnf) | (refine get_of hMx ?_; conv => whnf) | (refine get_of hWx ?_; conv => whnf) | (refine fit64 ?_ ?_ ?_; omega; omega; conv => whnf) | (refine brd (fun h => ?_) (fun h => ?_) <;> conv => whnf) | (refine br (fun h => ?_) (fun h => ?_) <;> conv => whnf) | (refine ret_now hE ?_; conv => whnf) | (intro hlen; conv => whnf))
                  have hset : (M.map (V.int .i64)).set (0 + x.toNat) (.int .i64 (m + wi)) = (addAt M x.toNat wi).map (V.int .i64) := by
                    rw [Nat.zero_add, addAt, List.map_set, List.getD_eq_getElem?_getD, hm']
                    rfl
                  have hI : ∀ e : List Int, e.length = T.length → dot (addAt M x.toNat wi) e = partS T W e i + wi * rowE e (row.take (j + 1)) := fun e he => by
                    rw [dot_add M e x.toNat wi (by omega) (by omega), hMd e he, rowE_step hx, if_pos h0, Int.mul_add]
                    omega
                  refine next_keep [2, 6, 7, 8, 32, 33, 39, 40, 41, 46, 47, 48] (j + 1, addAt M x.toNat wi) ⟨hjl, (addAt_length ..).trans hM, addAt_nonneg hMp hw0, hI⟩ (show row.length - (j + 1) < row.length - j by omega) ?_
                  conv => whnf
                  rw [hset]
                  simp only [addAt_length]
                  rfl
                · have hI : ∀ e : List Int, e.length = T.length → dot M e = partS T W e i + wi * rowE e (row.take (j + 1)) := fun e he => by rw [hMd e he, rowE_step hx, if_neg h0, Int.add_zero]
                  conv => whnf
                  repeat' (first | (refine brd_t (by first | assumption | omega) ?_; conv => whnf) | (refine brd_f (by first | assumption | omega) ?_; conv => whnf) | (refine ask (by first | assumption | omega) ?_; conv => whnf) | (refine fit64 (by omega) ?_; conv => whnf) | (refine fit (by simp only [kmin, kmax]; omega) ?_; conv => whnf) | (refine br_t (by assumption) ?_; conv => whnf) | (refine br_f (by assumption) ?_; conv => whnf) | (refine get_of (by assumption) ?_; conv => whnf) | (refine get_map (by assumption) ?_; conv => whnf) | (refine brd (fun h => ?_) (fun h => ?_) <;> conv => whnf) | (refine br (fun h => ?_) (fun h => ?_) <;> conv => whnf) | (refine ret_now hE ?_; conv => whnf) | (intro hlen; conv => whnf))
                  refine next_keep [2, 6, 7, 8, 32, 33, 39, 40, 41, 46, 47, 48] (j + 1, M) ⟨hjl, hM, hMp, hI⟩ (show row.length - (j + 1) < row.length - j by omega) ?_
                  rfl
              · have hI : ∀ e : List Int, e.length = T.length → dot M e = partS T W e (i + 1) := fun e he => by rw [hMd e he, List.take_of_length_le (by omega), partS_step hwi hr]
                conv => whnf
                repeat' (first | (refine brd_t (by first | assumption | omega) ?_; conv => whnf) | (refine brd_f (by first | assumption | omega) ?_; conv => whnf) | (refine ask (by first | assumption | omega) ?_; conv => whnf) | (refine fit64 (by omega) ?_; conv => whnf) | (refine fit (by simp only [kmin, kmax]; omega) ?_; conv => whnf) | (refine br_t (by assumption) ?_; conv => whnf) | (refine br_f (by assumption) ?_; conv => whnf) | (refine get_of (by assumption) ?_; conv => whnf) | (refine get_map (by assumption) ?_; conv => whnf) | (refine brd (fun h => ?_) (fun h => ?_) <;> conv => whnf) | (refine br (fun h => ?_) (fun h => ?_) <;> conv => whnf) | (refine ret_now hE ?_; conv => whnf) | (intro hlen; conv => whnf))
                refine next_keep [2, 6, 7, 32, 33, 39, 40, 41] (i + 1, M) ⟨hil, hM, hMp, hI⟩ (show T.length - (i + 1) < T.length - i by omega) ?_
                rfl
          · have hNall : ∀ e : List Int, e.length = T.length → dot N e = dot W (T.map (rowE e)) := fun e he => by rw [hNd e he, show i = T.length by omega, partS_all hW rfl]
            conv => whnf
            repeat' (first | (refine brd_t (by first | assumption | omega) ?_; conv => whnf) | (refine brd_f (by first | assumption | omega) ?_; conv => whnf) | (refine ask (by first | assumption | omega) ?_; conv => whnf) | (refine fit64 (by omega) ?_; conv => whnf) | (refine fit (by simp only [kmin, kmax]; omega) ?_; conv => whnf) | (refine br_t (by assumption) ?_; conv => whnf) | (refine br_f (by assumption) ?_; conv => whnf) | (refine get_of (by assumption) ?_; conv => whnf) | (refine get_map (by assumption) ?_; conv => whnf) | (refine brd (fun h => ?_) (fun h => ?_) <;> conv => whnf) | (refine br (fun h => ?_) (fun h => ?_) <;> conv => whnf) | (refine ret_now hE ?_; conv => whnf) | (intro hlen; conv => whnf))
            refine up_drop 0 (up_move 1 0 (by decide) rfl rfl ?_)
            refine next_drop [2, 6, 32, 33] [] (k + 1, N) ⟨hlt, hN, hNp, ?_, ?_⟩ (show long.toNat - (k + 1) < long.toNat - k by omega) ?_
            · have h1' := hNall (List.replicate N.length 1) (by simp [hN])
              rw [h1', ← partS_all hW rfl]
              have h2' := partS_ones (n := N.length) T W T.length (fun r hr => by have := hrow r hr; unfold badRow at this; simp at this; omega) hpos (by omega)
              rw [Int.pow_succ]
              omega
            · rw [hNall _ (endsF_length hF _)]
              have : long.toNat - k = (long.toNat - (k + 1)) + 1 := by omega
              rw [this] at hdot
              exact hdot
            · conv => whnf
              show _ = (⟨85, [(2, .rp [.lst (T.map ints), .lst (F.map V.bool)]), (6, .sl 0 0 N.length), (32, .int .i64 long), (33, .int .i64 ((k + 1 : Nat) : Int))], [some (.row 1 (N.map (V.int .i64)))]⟩ : ES)
              rw [kill_nrL _ (nr_i64 _), mv_i64]
              rfl
      · conv => whnf
        repeat' (first | (refine brd_t (by first | assumption | omega) ?_; conv => whnf) | (refine brd_f (by first | assumption | omega) ?_; conv => whnf) | (refine ask (by first | assumption | omega) ?_; conv => whnf) | (refine fit64 (by omega) ?_; conv => whnf) | (refine fit (by simp only [kmin, kmax]; omega) ?_; conv => whnf) | (refine br_t (by assumption) ?_; conv => whnf) | (refine br_f (by assumption) ?_; conv => whnf) | (refine get_of (by assumption) ?_; conv => whnf) | (refine get_map (by assumption) ?_; conv => whnf) | (refine brd (fun h => ?_) (fun h => ?_) <;> conv => whnf) | (refine br (fun h => ?_) (fun h => ?_) <;> conv => whnf) | (refine ret_now hE ?_; conv => whnf) | (intro hlen; conv => whnf))

        refine loopE (fun ((i, s) : Nat × Int) => ⟨85, [(2, .rp [.lst (T.map ints), .lst (F.map V.bool)]), (6, .sl 0 0 W.length), (12, .int .i64 s), (69, .lst (F.map V.bool)), (70, .int .i64 (F.map V.bool).length), (71, .int .i64 i)], [some (.row 1 (W.map (V.int .i64)))]⟩)
          (fun (i, s) => i ≤ F.length ∧ s = finS F W i) (fun (i, _) => F.length - i) (0, 0) hE ?_ ?_ ⟨Nat.zero_le _, by simp [finS, dot]⟩ ?_
        · kernel_rfl
        · exact at_keep [2, 6, 12, 69, 70, 71] rfl
        · rintro ⟨i, s⟩ ⟨hi, hs⟩
          by_cases hil : i < F.length
          · obtain ⟨b, hb'⟩ : ∃ x, F[i]? = some x := ⟨_, List.getElem?_eq_getElem hil⟩
            obtain ⟨wi, hwi⟩ : ∃ x, W[i]? = some x := ⟨_, List.getElem?_eq_getElem (by omega)⟩
            have hst := finS_step hb' hwi
            have hle := finS_le F W i hpos
            have hle' := finS_le F W (i + 1) hpos
            have h8k : (8 : Int) ^ k ≤ 68719476736 := by
              have : k ≤ 12 := by omega
              exact (by decide +kernel : ∀ k, k ≤ 12 → (8 : Int) ^ k ≤ 68719476736) k this
            cases b with
            | true =>
              rw [if_pos rfl] at hst
              have hWx : (W.map (V.int .i64))[0 + ((i : Nat) : Int).toNat]? = some (.int .i64 wi) := by rw [Nat.zero_add, Int.toNat_natCast, List.getElem?_map, hwi]; rfl
              conv => whnf
              repeat' (first | (refine brd_t (by first | assumption | omega) ?_; conv => whnf) | (refine brd_f (by first | assumption | omega) ?_; conv => whnf) | (refine ask (by first | assumption | omega) ?_; conv => whnf) | (refine fit64 (by omega) ?_; conv => whnf) | (refine fit (by simp only [kmin, kmax]; omega) ?_; conv => whnf) | (refine br_t (by assumption) ?_; conv => whnf) | (refine br_f (by assumption) ?_; conv => whnf) | (refine get_of (by assumption) ?_; conv => whnf) | (refine get_map (by assumption) ?_; conv => whnf) | (refine get_of hWx ?_; conv => whnf) | (refine fit64 ?_ ?_ ?_; omega; omega; conv => whnf) | (refine brd (fun h => ?_) (fun h => ?_) <;> conv => whnf) | (refine br (fun h => ?_) (fun h => ?_) <;> conv => whnf) | (refine ret_now hE ?_; conv => whnf) | (intro hlen; conv => whnf))
              exact next_keep [2, 6, 12, 69, 70, 71] (i + 1, s + wi) ⟨hil, by omega⟩ (show F.length - (i + 1) < F.length - i by omega) rfl
            | false =>
              rw [if_neg (by simp)] at hst
              conv => whnf
              repeat' (first | (refine brd_t (by first | assumption | omega) ?_; conv => whnf) | (refine brd_f (by first | assumption | omega) ?_; conv => whnf) | (refine ask (by first | assumption | omega) ?_; conv => whnf) | (refine fit64 (by omega) ?_; conv => whnf) | (refine fit (by simp only [kmin, kmax]; omega) ?_; conv => whnf) | (refine br_t (by assumption) ?_; conv => whnf) | (refine br_f (by assumption) ?_; conv => whnf) | (refine get_of (by assumption) ?_; conv => whnf) | (refine get_map (by assumption) ?_; conv => whnf) | (refine brd (fun h => ?_) (fun h => ?_) <;> conv => whnf) | (refine br (fun h => ?_) (fun h => ?_) <;> conv => whnf) | (refine ret_now hE ?_; conv => whnf) | (intro hlen; conv => whnf))
              exact next_keep [2, 6, 12, 69, 70, 71] (i + 1, s) ⟨hil, by omega⟩ (show F.length - (i + 1) < F.length - i by omega) rfl
          · conv => whnf
            repeat' (first | (refine brd_t (by first | assumption | omega) ?_; conv => whnf) | (refine brd_f (by first | assumption | omega) ?_; conv => whnf) | (refine ask (by first | assumption | omega) ?_; conv => whnf) | (refine fit64 (by omega) ?_; conv => whnf) | (refine fit (by simp only [kmin, kmax]; omega) ?_; conv => whnf) | (refine br_t (by assumption) ?_; conv => whnf) | (refine br_f (by assumption) ?_; conv => whnf) | (refine get_of (by assumption) ?_; conv => whnf) | (refine get_map (by assumption) ?_; conv => whnf) | (refine brd (fun h => ?_) (fun h => ?_) <;> conv => whnf) | (refine br (fun h => ?_) (fun h => ?_) <;> conv => whnf) | (refine ret_now hE ?_; conv => whnf) | (intro hlen; conv => whnf))
            refine ⟨rfl, ?_⟩

            unfold countR
            rw [if_neg (by simp [hb]), if_neg (by omega), hs, show i = F.length by omega, finS_all (by omega), ← hdot, show long.toNat - k = 0 by omega]
            rfl
/-- The last states' ends, filled in as far as i. -/
def bitsF (F : List Bool) (n i : Nat) : List Int := ((F.take i).map fun b => if b then 1 else 0) ++ List.replicate (n - i) 0
theorem bits_step {F : List Bool} {n i : Nat} {b : Bool} (hb : F[i]? = some b) (hn : i < n) : bitsF F n (i + 1) = if b then (bitsF F n i).set i 1 else bitsF F n i := by
  have h1 := (List.getElem?_eq_some_iff.1 hb).1
  obtain ⟨m, hm⟩ : ∃ m, n - i = m + 1 := ⟨n - i - 1, by omega⟩
  unfold bitsF
  rw [List.take_add_one, hb, hm, show n - (i + 1) = m by omega, List.set_append_right _ _ (by simp; omega)]
  have : i - ((F.take i).map fun b => if b then (1 : Int) else 0).length = 0 := by simp; omega
  rw [this]
  cases b <;> simp [List.replicate_succ]
theorem bits_length {F : List Bool} {n i : Nat} (hi : i ≤ F.length) (hn : F.length = n) : (bitsF F n i).length = n := by
  unfold bitsF
  simp
  omega
theorem rowE_le {e : List Int} {B : Int} (h : ∀ t, 0 ≤ e.getD t 0 ∧ e.getD t 0 ≤ B) : ∀ row : List Int, 0 ≤ rowE e row ∧ rowE e row ≤ row.length * B
  | [] => by simp [rowE]
  | x :: row => by
    have ih := rowE_le h row
    have hx := h x.toNat
    unfold rowE at ih ⊢
    simp only [List.map_cons, List.sum_cons, List.length_cons]
    have : ((row.length + 1 : Nat) : Int) * B = row.length * B + B := by rw [Int.natCast_add, Int.add_mul]; simp
    rw [this]
    split <;> omega
theorem ends_le {T : List (List Int)} {F : List Bool} (h8 : ∀ r ∈ T, r.length = 8) : ∀ k t, 0 ≤ (endsF T F k).getD t 0 ∧ (endsF T F k).getD t 0 ≤ 8 ^ k
  | 0, t => by
    rw [List.getD_eq_getElem?_getD]
    cases hg : (endsF T F 0)[t]? with
    | none => simp
    | some x =>
      obtain ⟨b, _, rfl⟩ := List.mem_map.1 (List.mem_of_getElem? hg)
      cases b <;> simp
  | k + 1, t => by
    rw [List.getD_eq_getElem?_getD]
    have hp : (0 : Int) ≤ 8 ^ (k + 1) := Int.pow_nonneg (by decide)
    cases hg : (endsF T F (k + 1))[t]? with
    | none => simpa using hp
    | some x =>
      obtain ⟨r, hr, rfl⟩ := List.mem_map.1 (List.mem_of_getElem? hg)
      have := rowE_le (ends_le (F := F) h8 k) r
      rw [h8 r hr] at this
      rw [Int.pow_succ]
      simp only [Option.getD_some]
      show 0 ≤ rowE (endsF T F k) r ∧ rowE (endsF T F k) r ≤ _
      omega
/-- A round from behind, filled in as far as i rows, with v under way. -/
def behind (T : List (List Int)) (E : List Int) (i : Nat) (v : Int) : List Int := (T.take i).map (rowE E) ++ v :: List.replicate (T.length - i - 1) 0
theorem behind_length {T : List (List Int)} {E : List Int} {i : Nat} {v : Int} (hi : i < T.length) : (behind T E i v).length = T.length := by
  unfold behind
  simp
  omega
theorem behind_set {T : List (List Int)} {E : List Int} {i : Nat} {v w : Int} (hi : i < T.length) : (behind T E i v).set i w = behind T E i w := by
  unfold behind
  rw [List.set_append_right _ _ (by simp; omega)]
  have : i - ((T.take i).map (rowE E)).length = 0 := by simp; omega
  rw [this]
  rfl
theorem behind_get {T : List (List Int)} {E : List Int} {i : Nat} {v : Int} (hi : i < T.length) : (behind T E i v)[i]? = some v := by
  unfold behind
  rw [List.getElem?_append_right (by simp; omega)]
  have : i - ((T.take i).map (rowE E)).length = 0 := by simp; omega
  rw [this]
  rfl
def fromB (T : List (List Int)) (E : List Int) (i : Nat) : List Int := (T.take i).map (rowE E) ++ List.replicate (T.length - i) 0
theorem fromB_start {T : List (List Int)} {E : List Int} {i : Nat} (hi : i < T.length) : fromB T E i = behind T E i 0 := by
  unfold fromB behind
  rw [show T.length - i = (T.length - i - 1) + 1 by omega, List.replicate_succ]
  rfl
theorem fromB_end {T : List (List Int)} {E row : List Int} {i : Nat} (hr : T[i]? = some row) : behind T E i (rowE E row) = fromB T E (i + 1) := by
  unfold fromB behind
  rw [List.take_add_one, hr, List.map_append, Nat.sub_sub, List.append_assoc]
  rfl
theorem fromB_all {T : List (List Int)} {E : List Int} : fromB T E T.length = T.map (rowE E) := by simp [fromB]
set_option maxHeartbeats 8000000 in
theorem ref_count (T : List (List Int)) (F : List Bool) (long : Int) : Fn1 Try.prog 15 [autoV T F, .int .i64 long] (fun r => r = countR T F long) := by
  have hTm : (T.map ints).length = T.length := by simp
  have hFm : (F.map V.bool).length = F.length := by simp
  have hm := auto_may T F
  cases hb : mayOk T F with
  | false =>
    rw [hb] at hm
    refine fn1E (T := Try.tt) Try.func15 rfl tt_all follows_all ?_ ?_ fun C hC hE => ?_
    · kernel_rfl
    · exact Nat.le_of_ble_eq_true (by kernel_rfl)
    conv => whnf
    repeat' (first | (refine brd_t (by first | assumption | omega) ?_; conv => whnf) | (refine brd_f (by first | assumption | omega) ?_; conv => whnf) | (refine ask (by first | assumption | omega) ?_; conv => whnf) | (refine fit64 (by omega) ?_; conv => whnf) | (refine fit (by simp only [kmin, kmax]; omega) ?_; conv => whnf) | (refine br_t (by assumption) ?_; conv => whnf) | (refine br_f (by assumption) ?_; conv => whnf) | (refine get_of (by assumption) ?_; conv => whnf) | (refine get_map (by assumption) ?_; conv => whnf) | (refine call_eq (hm) hC hasBody_38 ?_ ?_ ?_; kernel_rfl; kernel_rfl; conv => whnf) | (refine callq_eq (hm) hC hasBody_38 ?_ ?_ ?_; kernel_rfl; kernel_rfl; conv => whnf) | (refine brd (fun h => ?_) (fun h => ?_) <;> conv => whnf) | (refine br (fun h => ?_) (fun h => ?_) <;> conv => whnf) | (refine ret_now hE ?_; conv => whnf) | (intro hlen; conv => whnf))
    exact ⟨rfl, by unfold countR; rw [if_pos hb]⟩
  | true =>
    rw [hb] at hm
    obtain ⟨h1, h40, hF, hrow⟩ := mayOk_true hb
    refine fn1E (T := Try.tt) Try.func15 rfl tt_all follows_all ?_ ?_ fun C hC hE => ?_
    · kernel_rfl
    · exact Nat.le_of_ble_eq_true (by kernel_rfl)
    conv => whnf
    repeat' (first | (refine brd_t (by first | assumption | omega) ?_; conv => whnf) | (refine brd_f (by first | assumption | omega) ?_; conv => whnf) | (refine ask (by first | assumption | omega) ?_; conv => whnf) | (refine fit64 (by omega) ?_; conv => whnf) | (refine fit (by simp only [kmin, kmax]; omega) ?_; conv => whnf) | (refine br_t (by assumption) ?_; conv => whnf) | (refine br_f (by assumption) ?_; conv => whnf) | (refine get_of (by assumption) ?_; conv => whnf) | (refine get_map (by assumption) ?_; conv => whnf) | (refine call_eq (hm) hC hasBody_38 ?_ ?_ ?_; kernel_rfl; kernel_rfl; conv => whnf) | (refine callq_eq (hm) hC hasBody_38 ?_ ?_ ?_; kernel_rfl; kernel_rfl; conv => whnf) | (refine ask ⟨?_, ?_, ?_, ?_⟩ ?_; omega; omega; omega; omega; conv => whnf) | (refine brd (fun h => ?_) (fun h => ?_) <;> conv => whnf) | (refine br (fun h => ?_) (fun h => ?_) <;> conv => whnf) | (refine ret_now hE ?_; conv => whnf) | (intro hlen; conv => whnf))
    · exact ⟨rfl, by unfold countR; rw [if_neg (by simp [hb]), if_pos (.inl (by assumption))]⟩
    · exact ⟨rfl, by unfold countR; rw [if_neg (by simp [hb]), if_pos (.inr (by assumption))]⟩
    refine loopE (fun ((i, E) : Nat × List Int) => ⟨79, [(1, .int .i64 long), (2, .rp [.lst (T.map ints), .lst (F.map V.bool)]), (6, .sl 0 0 E.length), (28, .lst (F.map V.bool)), (29, .int .i64 (F.map V.bool).length), (30, .int .i64 i)], [some (.row 1 (E.map (V.int .i64)))]⟩)
      (fun (i, E) => i ≤ F.length ∧ E = bitsF F T.length i) (fun (i, _) => F.length - i) (0, List.replicate (((T.map ints).length : Nat) : Int).toNat 0) hE ?_ ?_ ⟨Nat.zero_le _, by simp [bitsF]⟩ ?_
    · kernel_rfl
    · refine up_freeze 0 (z := 2) (els := [autoV T F]) rfl ⟨⟨trivial, trivial, trivial⟩, trivial⟩ (up_move 1 0 (by decide) rfl rfl ?_)
      refine at_drop [1, 2, 6, 28, 29, 30] [] ?_
      conv => whnf
      have hr : (List.replicate (((T.map ints).length : Nat) : Int).toNat (V.int .i64 0)) = (List.replicate (((T.map ints).length : Nat) : Int).toNat (0 : Int)).map (V.int .i64) := by rw [List.map_replicate]
      rw [hr, frz_nrL _ _ (nr_i64 _), mv_i64]
      simp only [List.length_replicate]
      rfl
    · rintro ⟨i, E⟩ ⟨hi, hEq⟩
      have hEl : E.length = T.length := by rw [hEq]; exact bits_length hi hF
      have hEm : (E.map (V.int .i64)).length = E.length := by simp
      by_cases hil : i < F.length
      · obtain ⟨b, hb'⟩ : ∃ x, F[i]? = some x := ⟨_, List.getElem?_eq_getElem hil⟩
        have hst := bits_step hb' (n := T.length) (by omega)
        rw [← hEq] at hst
        cases b with
        | true =>
          rw [if_pos rfl] at hst
          obtain ⟨m, hm'⟩ : ∃ y, E[i]? = some y := ⟨_, List.getElem?_eq_getElem (by omega)⟩
          have hWx : (E.map (V.int .i64))[0 + ((i : Nat) : Int).toNat]? = some (.int .i64 m) := by rw [Nat.zero_add, Int.toNat_natCast, List.getElem?_map, hm']; rfl
          have hset : (E.map (V.int .i64)).set (0 + ((i : Nat) : Int).toNat) (.int .i64 1) = (E.set i 1).map (V.int .i64) := by rw [Nat.zero_add, Int.toNat_natCast, List.map_set]
          conv => whnf
          repeat' (first | (refine brd_t (by first | assumption | omega) ?_; conv => whnf) | (refine brd_f (by first | assumption | omega) ?_; conv => whnf) | (refine ask (by first | assumption | omega) ?_; conv => whnf) | (refine fit64 (by omega) ?_; conv => whnf) | (refine fit (by simp only [kmin, kmax]; omega) ?_; conv => whnf) | (refine br_t (by assumption) ?_; conv => whnf) | (refine br_f (by assumption) ?_; conv => whnf) | (refine get_of (by assumption) ?_; conv => whnf) | (refine get_map (by assumption) ?_; conv => whnf) | (refine get_of hWx ?_; conv => whnf) | (refine brd (fun h => ?_) (fun h => ?_) <;> conv => whnf) | (refine br (fun h => ?_) (fun h => ?_) <;> conv => whnf) | (refine ret_now hE ?_; conv => whnf) | (intro hlen; conv => whnf))
          refine next_keep [1, 2, 6, 28, 29, 30] (i + 1, E.set i 1) ⟨hil, hst.symm⟩ (show F.length - (i + 1) < F.length - i by omega) ?_
          conv => whnf
          rw [hset]
          simp only [List.length_set]
          rfl
        | false =>
          rw [if_neg (by simp)] at hst
          conv => whnf
          repeat' (first | (refine brd_t (by first | assumption | omega) ?_; conv => whnf) | (refine brd_f (by first | assumption | omega) ?_; conv => whnf) | (refine ask (by first | assumption | omega) ?_; conv => whnf) | (refine fit64 (by omega) ?_; conv => whnf) | (refine fit (by simp only [kmin, kmax]; omega) ?_; conv => whnf) | (refine br_t (by assumption) ?_; conv => whnf) | (refine br_f (by assumption) ?_; conv => whnf) | (refine get_of (by assumption) ?_; conv => whnf) | (refine get_map (by assumption) ?_; conv => whnf) | (refine brd (fun h => ?_) (fun h => ?_) <;> conv => whnf) | (refine br (fun h => ?_) (fun h => ?_) <;> conv => whnf) | (refine ret_now hE ?_; conv => whnf) | (intro hlen; conv => whnf))
          exact next_keep [1, 2, 6, 28, 29, 30] (i + 1, E) ⟨hil, hst.symm⟩ (show F.length - (i + 1) < F.length - i by omega) rfl
      · have hE0 : E = endsF T F 0 := by
          rw [hEq]
          unfold bitsF endsF
          rw [List.take_of_length_le (by omega), show T.length - i = 0 by omega]
          simp
        conv => whnf
        repeat' (first | (refine brd_t (by first | assumption | omega) ?_; conv => whnf) | (refine brd_f (by first | assumption | omega) ?_; conv => whnf) | (refine ask (by first | assumption | omega) ?_; conv => whnf) | (refine fit64 (by omega) ?_; conv => whnf) | (refine fit (by simp only [kmin, kmax]; omega) ?_; conv => whnf) | (refine br_t (by assumption) ?_; conv => whnf) | (refine br_f (by assumption) ?_; conv => whnf) | (refine get_of (by assumption) ?_; conv => whnf) | (refine get_map (by assumption) ?_; conv => whnf) | (refine brd (fun h => ?_) (fun h => ?_) <;> conv => whnf) | (refine br (fun h => ?_) (fun h => ?_) <;> conv => whnf) | (refine ret_now hE ?_; conv => whnf) | (intro hlen; conv => whnf))
        refine loopE (fun ((k, lg, E) : Nat × Int × List Int) => ⟨79, [(1, .int .i64 lg), (2, .rp [.lst (T.map ints), .lst (F.map V.bool)]), (6, .sl 0 0 E.length)], [some (.row 1 (E.map (V.int .i64)))]⟩)
          (fun (k, lg, E) => lg = long - k ∧ 0 ≤ lg ∧ E = endsF T F k) (fun (_, lg, _) => lg.toNat) (0, long, E) hE ?_ ?_ ⟨by omega, by omega, hE0⟩ ?_
        · kernel_rfl
        · exact at_keep [1, 2, 6] rfl
        clear hEq hE0 hEl hEm E
        rintro ⟨k, lg, E⟩ ⟨hlg, hlg0, hEq⟩
        have hEl : E.length = T.length := by rw [hEq]; exact endsF_length hF k
        have hEm : (E.map (V.int .i64)).length = E.length := by simp
        by_cases hl : 0 < lg
        · conv => whnf
          repeat' (first | (refine brd_t (by first | assumption | omega) ?_; conv => whnf) | (refine brd_f (by first | assumption | omega) ?_; conv => whnf) | (refine ask (by first | assumption | omega) ?_; conv => whnf) | (refine fit64 (by omega) ?_; conv => whnf) | (refine fit (by simp only [kmin, kmax]; omega) ?_; conv => whnf) | (refine br_t (by assumption) ?_; conv => whnf) | (refine br_f (by assumption) ?_; conv => whnf) | (refine get_of (by assumption) ?_; conv => whnf) | (refine get_map (by assumption) ?_; conv => whnf) | (refine ask ⟨?_, ?_, ?_, ?_⟩ ?_; omega; omega; omega; omega; conv => whnf) | (refine brd (fun h => ?_) (fun h => ?_) <;> conv => whnf) | (refine br (fun h => ?_) (fun h => ?_) <;> conv => whnf) | (refine ret_now hE ?_; conv => whnf) | (intro hlen; conv => whnf))
          have hWn : ((E.length : Nat) : Int).toNat = T.length := by omega
          refine loopE (fun ((i, N) : Nat × List Int) => ⟨79, [(1, .int .i64 lg), (2, .rp [.lst (T.map ints), .lst (F.map V.bool)]), (6, .sl 0 0 E.length), (9, .sl 1 0 N.length), (48, .lst (T.map ints)), (49, .int .i64 (T.map ints).length), (50, .int .i64 i)], [some (.row 1 (E.map (V.int .i64))), some (.row 1 (N.map (V.int .i64)))]⟩)
            (fun (i, N) => i ≤ T.length ∧ N = fromB T E i) (fun (i, _) => T.length - i) (0, List.replicate T.length 0) hE ?_ ?_ ⟨Nat.zero_le _, by simp [fromB]⟩ ?_
          · kernel_rfl
          · refine at_keep [1, 2, 6, 9, 48, 49, 50] ?_
            conv => whnf
            rw [hWn]
            simp only [List.length_replicate, List.map_replicate]
            rfl
          rintro ⟨i, N⟩ ⟨hi, hN⟩
          by_cases hil : i < T.length
          · obtain ⟨row, hr⟩ : ∃ x, T[i]? = some x := ⟨_, List.getElem?_eq_getElem hil⟩
            have hrm : (row.map (V.int .i64)).length = row.length := by simp
            have hgood : badRow T.length row = false := hrow row (List.mem_of_getElem? hr)
            have h8 : row.length = 8 ∧ ∀ x ∈ row, -1 ≤ x ∧ x < T.length := by
              unfold badRow at hgood
              simp at hgood
              refine ⟨by omega, fun x hx => ?_⟩
              have := hgood.2 x hx
              simp [badState] at this
              omega
            rw [fromB_start hil] at hN
            conv => whnf
            repeat' (first | (refine brd_t (by first | assumption | omega) ?_; conv => whnf) | (refine brd_f (by first | assumption | omega) ?_; conv => whnf) | (refine ask (by first | assumption | omega) ?_; conv => whnf) | (refine fit64 (by omega) ?_; conv => whnf) | (refine fit (by simp only [kmin, kmax]; omega) ?_; conv => whnf) | (refine br_t (by assumption) ?_; conv => whnf) | (refine br_f (by assumption) ?_; conv => whnf) | (refine get_of (by assumption) ?_; conv => whnf) | (refine get_map (by assumption) ?_; conv => whnf) | (refine brd (fun h => ?_) (fun h => ?_) <;> conv => whnf) | (refine br (fun h => ?_) (fun h => ?_) <;> conv => whnf) | (refine ret_now hE ?_; conv => whnf) | (intro hlen; conv => whnf))
            refine loopE (fun ((j, v, N) : Nat × Int × List Int) => ⟨79, [(1, .int .i64 lg), (2, .rp [.lst (T.map ints), .lst (F.map V.bool)]), (6, .sl 0 0 E.length), (9, .sl 1 0 N.length), (10, .int .i64 i), (48, .lst (T.map ints)), (49, .int .i64 (T.map ints).length), (50, .int .i64 i), (55, ints row), (56, .int .i64 (row.map (V.int .i64)).length), (57, .int .i64 j)], [some (.row 1 (E.map (V.int .i64))), some (.row 1 (N.map (V.int .i64)))]⟩)
              (fun (j, v, N) => j ≤ row.length ∧ v = rowE E (row.take j) ∧ N = behind T E i v) (fun (j, _, _) => row.length - j) (0, 0, N) hE ?_ ?_ ⟨Nat.zero_le _, by simp [rowE], hN⟩ ?_
            · kernel_rfl
            · exact at_keep [1, 2, 6, 9, 10, 48, 49, 50, 55, 56, 57] rfl
            rintro ⟨j, v, N⟩ ⟨hj, hv, hN⟩
            have hNl : N.length = T.length := by rw [hN]; exact behind_length hil
            have hNm : (N.map (V.int .i64)).length = N.length := by simp
            by_cases hjl : j < row.length
            · obtain ⟨x, hx⟩ : ∃ x, row[j]? = some x := ⟨_, List.getElem?_eq_getElem hjl⟩
              have hxb := h8.2 x (List.mem_of_getElem? hx)
              have hstep := rowE_step (e := E) hx
              by_cases h0 : 0 ≤ x
              · obtain ⟨m, hm'⟩ : ∃ y, E[x.toNat]? = some y := ⟨_, List.getElem?_eq_getElem (by omega)⟩
                have hm8 := ends_le (T := T) (F := F) (fun r hr => by have := hrow r hr; unfold badRow at this; simp at this; omega) k
                rw [← hEq] at hm8
                have hv8 := rowE_le hm8 (row.take j)
                have h8k : (8 : Int) ^ k ≤ 68719476736 := by
                  have : k ≤ 12 := by omega
                  exact (by decide +kernel : ∀ k, k ≤ 12 → (8 : Int) ^ k ≤ 68719476736) k this
                have hmx : E.getD x.toNat 0 = m := by rw [List.getD_eq_getElem?_getD, hm']; rfl
                have hm9 := hm8 x.toNat
                rw [if_pos h0, hmx, ← hv] at hstep
                rw [hmx] at hm9
                rw [← hv] at hv8
                have hv9 : v ≤ 8 * 8 ^ k := by
                  have : ((row.take j).length : Int) * 8 ^ k ≤ 8 * 8 ^ k := Int.mul_le_mul_of_nonneg_right (by rw [List.length_take]; omega) (Int.pow_nonneg (by decide))
                  omega
                have hMx : (N.map (V.int .i64))[0 + ((i : Nat) : Int).toNat]? = some (.int .i64 v) := by rw [Nat.zero_add, Int.toNat_natCast, List.getElem?_map, hN, behind_get hil]; rfl
                have hWx : (E.map (V.int .i64))[0 + x.toNat]? = some (.int .i64 m) := by rw [Nat.zero_add, List.getElem?_map, hm']; rfl
                conv => whnf
                repeat' (first | (refine brd_t (by first | assumption | omega) ?_; conv => whnf) | (refine brd_f (by first | assumption | omega) ?_; conv => whnf) | (refine ask (by first | assumption | omega) ?_; conv => whnf) | (refine fit64 (by omega) ?_; conv => whnf) | (refine fit (by simp only [kmin, kmax]; omega) ?_; conv => whnf) | (refine br_t (by assumption) ?_; conv => whnf) | (refine br_f (by assumption) ?_; conv => whnf) | (refine get_of (by assumption) ?_; conv => whnf) | (refine get_map (by assumption) ?_; conv => whnf) | (refine get_of hMx ?_; conv => whnf) | (refine get_of hWx ?_; conv => whnf) | (refine fit64 ?_ ?_ ?_; omega; omega; conv => whnf) | (refine brd (fun h => ?_) (fun h => ?_) <;> conv => whnf) | (refine br (fun h => ?_) (fun h => ?_) <;> conv => whnf) | (refine ret_now hE ?_; conv => whnf) | (intro hlen; conv => whnf))
                have hset : (N.map (V.int .i64)).set (0 + ((i : Nat) : Int).toNat) (.int .i64 (v + m)) = (behind T E i (v + m)).map (V.int .i64) := by
                  rw [Nat.zero_add, Int.toNat_natCast, ← List.map_set, hN, behind_set hil]
                have hlen' : N.length = (behind T E i (v + m)).length := by rw [hNl, behind_length hil]
                refine next_keep [1, 2, 6, 9, 10, 48, 49, 50, 55, 56, 57] (j + 1, v + m, behind T E i (v + m)) ⟨hjl, hstep.symm, rfl⟩ (show row.length - (j + 1) < row.length - j by omega) ?_
                conv => whnf
                rw [hset, hlen']
                rfl
              · rw [if_neg h0, Int.add_zero] at hstep
                conv => whnf
                repeat' (first | (refine brd_t (by first | assumption | omega) ?_; conv => whnf) | (refine brd_f (by first | assumption | omega) ?_; conv => whnf) | (refine ask (by first | assumption | omega) ?_; conv => whnf) | (refine fit64 (by omega) ?_; conv => whnf) | (refine fit (by simp only [kmin, kmax]; omega) ?_; conv => whnf) | (refine br_t (by assumption) ?_; conv => whnf) | (refine br_f (by assumption) ?_; conv => whnf) | (refine get_of (by assumption) ?_; conv => whnf) | (refine get_map (by assumption) ?_; conv => whnf) | (refine brd (fun h => ?_) (fun h => ?_) <;> conv => whnf) | (refine br (fun h => ?_) (fun h => ?_) <;> conv => whnf) | (refine ret_now hE ?_; conv => whnf) | (intro hlen; conv => whnf))
                exact next_keep [1, 2, 6, 9, 10, 48, 49, 50, 55, 56, 57] (j + 1, v, N) ⟨hjl, hv.trans hstep.symm, hN⟩ (show row.length - (j + 1) < row.length - j by omega) rfl
            · have hNe : N = fromB T E (i + 1) := by
                rw [hN, hv, List.take_of_length_le (by omega), fromB_end hr]
              conv => whnf
              repeat' (first | (refine brd_t (by first | assumption | omega) ?_; conv => whnf) | (refine brd_f (by first | assumption | omega) ?_; conv => whnf) | (refine ask (by first | assumption | omega) ?_; conv => whnf) | (refine fit64 (by omega) ?_; conv => whnf) | (refine fit (by simp only [kmin, kmax]; omega) ?_; conv => whnf) | (refine br_t (by assumption) ?_; conv => whnf) | (refine br_f (by assumption) ?_; conv => whnf) | (refine get_of (by assumption) ?_; conv => whnf) | (refine get_map (by assumption) ?_; conv => whnf) | (refine brd (fun h => ?_) (fun h => ?_) <;> conv => whnf) | (refine br (fun h => ?_) (fun h => ?_) <;> conv => whnf) | (refine ret_now hE ?_; conv => whnf) | (intro hlen; conv => whnf))
              exact next_keep [1, 2, 6, 9, 48, 49, 50] (i + 1, N) ⟨hil, hNe⟩ (show T.length - (i + 1) < T.length - i by omega) rfl
          · have hNe : N = endsF T F (k + 1) := by
              rw [hN, show i = T.length by omega, fromB_all, hEq]
              rfl
            conv => whnf
            repeat' (first | (refine brd_t (by first | assumption | omega) ?_; conv => whnf) | (refine brd_f (by first | assumption | omega) ?_; conv => whnf) | (refine ask (by first | assumption | omega) ?_; conv => whnf) | (refine fit64 (by omega) ?_; conv => whnf) | (refine fit (by simp only [kmin, kmax]; omega) ?_; conv => whnf) | (refine br_t (by assumption) ?_; conv => whnf) | (refine br_f (by assumption) ?_; conv => whnf) | (refine get_of (by assumption) ?_; conv => whnf) | (refine get_map (by assumption) ?_; conv => whnf) | (refine brd (fun h => ?_) (fun h => ?_) <;> conv => whnf) | (refine br (fun h => ?_) (fun h => ?_) <;> conv => whnf) | (refine ret_now hE ?_; conv => whnf) | (intro hlen; conv => whnf))
            refine up_drop 0 (up_move 1 0 (by decide) rfl rfl ?_)
            refine next_drop [1, 2, 6] [] (k + 1, lg - 1, N) ⟨by omega, by omega, hNe⟩ (show (lg - 1).toNat < lg.toNat by omega) ?_
            conv => whnf
            show _ = (⟨79, [(1, .int .i64 (lg - 1)), (2, .rp [.lst (T.map ints), .lst (F.map V.bool)]), (6, .sl 0 0 N.length)], [some (.row 1 (N.map (V.int .i64)))]⟩ : ES)
            rw [kill_nrL _ (nr_i64 _), mv_i64]
            rfl
        · obtain ⟨m, hm'⟩ : ∃ y, E[0]? = some y := ⟨_, List.getElem?_eq_getElem (by omega)⟩
          have hWx : (E.map (V.int .i64))[0 + Int.toNat 0]? = some (.int .i64 m) := by
            show (E.map (V.int .i64))[0]? = _
            rw [List.getElem?_map, hm']; rfl
          conv => whnf
          repeat' (first | (refine brd_t (by first | assumption | omega) ?_; conv => whnf) | (refine brd_f (by first | assumption | omega) ?_; conv => whnf) | (refine ask (by first | assumption | omega) ?_; conv => whnf) | (refine fit64 (by omega) ?_; conv => whnf) | (refine fit (by simp only [kmin, kmax]; omega) ?_; conv => whnf) | (refine br_t (by assumption) ?_; conv => whnf) | (refine br_f (by assumption) ?_; conv => whnf) | (refine get_of (by assumption) ?_; conv => whnf) | (refine get_map (by assumption) ?_; conv => whnf) | (refine get_of hWx ?_; conv => whnf) | (refine brd (fun h => ?_) (fun h => ?_) <;> conv => whnf) | (refine br (fun h => ?_) (fun h => ?_) <;> conv => whnf) | (refine ret_now hE ?_; conv => whnf) | (intro hlen; conv => whnf))
          refine ⟨rfl, ?_⟩
          unfold countR
          have hk : long.toNat = k := by omega
          rw [if_neg (by simp [hb]), if_neg (by omega), hk, ← hEq, List.getD_eq_getElem?_getD, hm']
          rfl
end Go.Proofs.Ytcfinfdkmpgaaaa
