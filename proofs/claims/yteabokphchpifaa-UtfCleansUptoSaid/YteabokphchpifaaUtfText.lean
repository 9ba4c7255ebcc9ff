/- utf.Text and the document's UtfText, walked; the law UtfTexts. No conditions. -/
import Derived.Test.YteabokphchpifaaRune
set_option linter.unusedSimpArgs false
set_option linter.unusedVariables false
set_option maxRecDepth 100000
namespace Go.Proofs.Yteabokphchpifaa
open Go.RowKit

def flatR (l : List Int) : List UInt8 := l.flatMap runeB
theorem runeB_len (n : Int) : (runeB n).length ≤ 4 := by unfold runeB; (repeat' split) <;> simp
theorem flatR_step {l : List Int} {k : Nat} {x : Int} (hx : l[k]? = some x) : flatR (l.take (k + 1)) = flatR (l.take k) ++ runeB x := by
  unfold flatR
  rw [List.take_add_one, hx, List.flatMap_append]
  simp
def utfR (l : List Int) : V := if l.all letB = true then (if 600 < (flatR l).length then .tup [.str [], .int .i64 1] else .tup [.str (flatR l), .int .i64 0]) else .tup [.str [], .int .i64 2]
theorem utfR_bad {l : List Int} {k : Nat} {x : Int} (hx : l[k]? = some x) (h : letB x = false) : utfR l = .tup [.str [], .int .i64 2] := by
  unfold utfR
  rw [if_neg]
  intro hh
  have := List.all_eq_true.1 hh x (List.mem_of_getElem? hx)
  rw [h] at this
  cases this
theorem all_of {l : List Int} {k : Nat} (hk : l.length ≤ k) (h : ∀ j < k, ∀ x, l[j]? = some x → letB x = true) : l.all letB = true := by
  rw [List.all_eq_true]
  intro x hx
  obtain ⟨j, hj⟩ := List.mem_iff_getElem?.1 hx
  exact h j (by have := (List.getElem?_eq_some_iff.1 hj).1; omega) x hj
set_option maxHeartbeats 8000000 in
theorem utf_text (l : List Int) (hsz : l.length * 8 ≤ 140737488351232) : Fn1 Try.prog 36 [ints l] (fun r => r = utfR l) := by
  have hlm : (l.map (V.int .i64)).length = l.length := by simp
  refine fn1E (T := Try.tt) Try.func36 rfl tt_all follows_all ?_ ?_ fun C hC hE => ?_
  · kernel_rfl
  · exact Nat.le_of_ble_eq_true (by kernel_rfl)
  conv => whnf
  repeat' (first | (refine brd_t (by first | assumption | omega) ?_; conv => whnf) | (refine brd_f (by first | assumption | omega) ?_; conv => whnf) | (refine ask (by first | assumption | omega) ?_; conv => whnf) | (refine fit64 (by omega) ?_; conv => whnf) | (refine fit (by simp only [kmin, kmax]; omega) ?_; conv => whnf) | (refine br_t (by assumption) ?_; conv => whnf) | (refine br_f (by assumption) ?_; conv => whnf) | (refine get_of (by assumption) ?_; conv => whnf) | (refine get_map (by assumption) ?_; conv => whnf) | (refine brd (fun h => ?_) (fun h => ?_) <;> conv => whnf) | (refine br (fun h => ?_) (fun h => ?_) <;> conv => whnf) | (refine ret_now hE ?_; conv => whnf) | (intro hlen; conv => whnf))
  refine loopE (fun ((k, b) : Nat × List UInt8) => ⟨35, [(4, .sl 0 0 b.length), (7, ints l), (8, .int .i64 (l.map (V.int .i64)).length), (9, .int .i64 k)], [some (.row 1 (b.map byteV))]⟩)
    (fun (k, b) => k ≤ l.length ∧ b.length ≤ 4 * k ∧ b = flatR (l.take k) ∧ ∀ j < k, ∀ x, l[j]? = some x → letB x = true) (fun (k, _) => l.length - k) (0, []) hE ?_ ?_ ⟨Nat.zero_le _, Nat.zero_le _, by simp [flatR], fun j hj => by omega⟩ ?_
  · kernel_rfl
  · exact up_own 4 1 rfl rfl (at_keep [4, 7, 8, 9] rfl)
  rintro ⟨k, b⟩ ⟨hk, hbl, hb, hall⟩
  have hbm : (b.map byteV).length = b.length := by simp
  by_cases hlt : k < l.length
  · obtain ⟨x, hx⟩ : ∃ x, l[k]? = some x := ⟨_, List.getElem?_eq_getElem hlt⟩
    have hv := valid_rune x
    have hrl := runeB_len x
    cases hl : letB x with
    | false =>
      rw [hl] at hv
      conv => whnf
      repeat' (first | (refine brd_t (by first | assumption | omega) ?_; conv => whnf) | (refine brd_f (by first | assumption | omega) ?_; conv => whnf) | (refine ask (by first | assumption | omega) ?_; conv => whnf) | (refine fit64 (by omega) ?_; conv => whnf) | (refine fit (by simp only [kmin, kmax]; omega) ?_; conv => whnf) | (refine br_t (by assumption) ?_; conv => whnf) | (refine br_f (by assumption) ?_; conv => whnf) | (refine get_of (by assumption) ?_; conv => whnf) | (refine get_map (by assumption) ?_; conv => whnf) | (refine call_eq (hv) hC hasBody_60 ?_ ?_ ?_; kernel_rfl; kernel_rfl; conv => whnf) | (refine callq_eq (hv) hC hasBody_60 ?_ ?_ ?_; kernel_rfl; kernel_rfl; conv => whnf) | (refine fit32 (by omega) ?_; conv => whnf) | (refine brd (fun h => ?_) (fun h => ?_) <;> conv => whnf) | (refine br (fun h => ?_) (fun h => ?_) <;> conv => whnf) | (refine ret_now hE ?_; conv => whnf) | (intro hlen; conv => whnf))
      all_goals exact ⟨rfl, (utfR_bad hx hl).symm⟩
    | true =>
      have hr : 0 ≤ x ∧ x ≤ 1114111 ∧ (x < 55296 ∨ 57343 < x) := by unfold letB at hl; exact of_decide_eq_true hl
      have ha := h_app x hl b (by omega)
      rw [hl] at hv
      conv => whnf
      repeat' (first | (refine brd_t (by first | assumption | omega) ?_; conv => whnf) | (refine brd_f (by first | assumption | omega) ?_; conv => whnf) | (refine ask (by first | assumption | omega) ?_; conv => whnf) | (refine fit64 (by omega) ?_; conv => whnf) | (refine fit (by simp only [kmin, kmax]; omega) ?_; conv => whnf) | (refine br_t (by assumption) ?_; conv => whnf) | (refine br_f (by assumption) ?_; conv => whnf) | (refine get_of (by assumption) ?_; conv => whnf) | (refine get_map (by assumption) ?_; conv => whnf) | (refine call_eq (hv) hC hasBody_60 ?_ ?_ ?_; kernel_rfl; kernel_rfl; conv => whnf) | (refine callq_eq (hv) hC hasBody_60 ?_ ?_ ?_; kernel_rfl; kernel_rfl; conv => whnf) | (refine fit32 (by omega) ?_; conv => whnf) | (refine call_own ha hC hasBody_48 0 rfl (by simp [rnL, rnV]) rfl (bytes_nr _) (bytes_nr _) ?_; conv => whnf) | (refine brd (fun h => ?_) (fun h => ?_) <;> conv => whnf) | (refine br (fun h => ?_) (fun h => ?_) <;> conv => whnf) | (refine ret_now hE ?_; conv => whnf) | (intro hlen; conv => whnf))
      refine next_keep [4, 7, 8, 9] (k + 1, b ++ runeB x) ⟨hlt, by rw [List.length_append]; omega, by rw [flatR_step hx, ← hb], fun j hj y hy => ?_⟩ (show l.length - (k + 1) < l.length - k by omega) rfl
      by_cases e : j = k
      · subst e; rw [hx] at hy; cases hy; exact hl
      · exact hall j (by omega) y hy
  · have hfull : b = flatR l := by rw [hb, List.take_of_length_le (by omega)]
    have hal := all_of (by omega) hall
    have hcut : List.take b.length (List.drop 0 (b.map byteV)) = b.map byteV := by rw [List.drop_zero]; exact List.take_of_length_le (by omega)
    conv => whnf
    repeat' (first | (refine brd_t (by first | assumption | omega) ?_; conv => whnf) | (refine brd_f (by first | assumption | omega) ?_; conv => whnf) | (refine ask (by first | assumption | omega) ?_; conv => whnf) | (refine fit64 (by omega) ?_; conv => whnf) | (refine fit (by simp only [kmin, kmax]; omega) ?_; conv => whnf) | (refine br_t (by assumption) ?_; conv => whnf) | (refine br_f (by assumption) ?_; conv => whnf) | (refine get_of (by assumption) ?_; conv => whnf) | (refine get_map (by assumption) ?_; conv => whnf) | (refine ⟨b, hcut, by omega, ?_⟩; conv => whnf) | (refine brd (fun h => ?_) (fun h => ?_) <;> conv => whnf) | (refine br (fun h => ?_) (fun h => ?_) <;> conv => whnf) | (refine ret_now hE ?_; conv => whnf) | (intro hlen; conv => whnf))
    · exact ⟨rfl, by unfold utfR; rw [if_pos hal, ← hfull, if_pos (by omega)]⟩
    · exact ⟨rfl, by unfold utfR; rw [if_pos hal, ← hfull, if_neg (by omega)]⟩
/-! ### The document's answer -/
theorem low_1 (n : Int) (hn : 0 ≤ n) (hm : n ≤ 1114111) : Fn1 Try.prog 68 [.int .i64 1, .rp [.int .i64 n]] (fun r => r = .int .u8 (128 + n / 1 % 64)) := by
  have e1 : n.tdiv 1 = n / 1 := Int.tdiv_eq_ediv_of_nonneg hn
  have e2 : (n.tdiv 1).tmod 64 = n / 1 % 64 := by rw [e1]; exact Int.tmod_eq_emod_of_nonneg (by omega)
  refine fn1E (T := Try.tt) Try.func68 rfl tt_all follows_all ?_ ?_ fun C hC hE => ?_
  · kernel_rfl
  · exact Nat.le_of_ble_eq_true (by kernel_rfl)
  conv => whnf
  repeat' (first | (refine brd_t (by first | assumption | omega) ?_; conv => whnf) | (refine brd_f (by first | assumption | omega) ?_; conv => whnf) | (refine ask (by first | assumption | omega) ?_; conv => whnf) | (refine fit64 (by omega) ?_; conv => whnf) | (refine fit (by simp only [kmin, kmax]; omega) ?_; conv => whnf) | (refine br_t (by assumption) ?_; conv => whnf) | (refine br_f (by assumption) ?_; conv => whnf) | (refine get_of (by assumption) ?_; conv => whnf) | (refine get_map (by assumption) ?_; conv => whnf) | (refine fit8 (by omega) ?_; conv => whnf) | (refine brd (fun h => ?_) (fun h => ?_) <;> conv => whnf) | (refine br (fun h => ?_) (fun h => ?_) <;> conv => whnf) | (refine ret_now hE ?_; conv => whnf) | (intro hlen; conv => whnf))
  exact ⟨rfl, by rw [e2]⟩
theorem low_64 (n : Int) (hn : 0 ≤ n) (hm : n ≤ 1114111) : Fn1 Try.prog 68 [.int .i64 64, .rp [.int .i64 n]] (fun r => r = .int .u8 (128 + n / 64 % 64)) := by
  have e1 : n.tdiv 64 = n / 64 := Int.tdiv_eq_ediv_of_nonneg hn
  have e2 : (n.tdiv 64).tmod 64 = n / 64 % 64 := by rw [e1]; exact Int.tmod_eq_emod_of_nonneg (by omega)
  refine fn1E (T := Try.tt) Try.func68 rfl tt_all follows_all ?_ ?_ fun C hC hE => ?_
  · kernel_rfl
  · exact Nat.le_of_ble_eq_true (by kernel_rfl)
  conv => whnf
  repeat' (first | (refine brd_t (by first | assumption | omega) ?_; conv => whnf) | (refine brd_f (by first | assumption | omega) ?_; conv => whnf) | (refine ask (by first | assumption | omega) ?_; conv => whnf) | (refine fit64 (by omega) ?_; conv => whnf) | (refine fit (by simp only [kmin, kmax]; omega) ?_; conv => whnf) | (refine br_t (by assumption) ?_; conv => whnf) | (refine br_f (by assumption) ?_; conv => whnf) | (refine get_of (by assumption) ?_; conv => whnf) | (refine get_map (by assumption) ?_; conv => whnf) | (refine fit8 (by omega) ?_; conv => whnf) | (refine brd (fun h => ?_) (fun h => ?_) <;> conv => whnf) | (refine br (fun h => ?_) (fun h => ?_) <;> conv => whnf) | (refine ret_now hE ?_; conv => whnf) | (intro hlen; conv => whnf))
  exact ⟨rfl, by rw [e2]⟩
theorem low_4096 (n : Int) (hn : 0 ≤ n) (hm : n ≤ 1114111) : Fn1 Try.prog 68 [.int .i64 4096, .rp [.int .i64 n]] (fun r => r = .int .u8 (128 + n / 4096 % 64)) := by
  have e1 : n.tdiv 4096 = n / 4096 := Int.tdiv_eq_ediv_of_nonneg hn
  have e2 : (n.tdiv 4096).tmod 64 = n / 4096 % 64 := by rw [e1]; exact Int.tmod_eq_emod_of_nonneg (by omega)
  refine fn1E (T := Try.tt) Try.func68 rfl tt_all follows_all ?_ ?_ fun C hC hE => ?_
  · kernel_rfl
  · exact Nat.le_of_ble_eq_true (by kernel_rfl)
  conv => whnf
  repeat' (first | (refine brd_t (by first | assumption | omega) ?_; conv => whnf) | (refine brd_f (by first | assumption | omega) ?_; conv => whnf) | (refine ask (by first | assumption | omega) ?_; conv => whnf) | (refine fit64 (by omega) ?_; conv => whnf) | (refine fit (by simp only [kmin, kmax]; omega) ?_; conv => whnf) | (refine br_t (by assumption) ?_; conv => whnf) | (refine br_f (by assumption) ?_; conv => whnf) | (refine get_of (by assumption) ?_; conv => whnf) | (refine get_map (by assumption) ?_; conv => whnf) | (refine fit8 (by omega) ?_; conv => whnf) | (refine brd (fun h => ?_) (fun h => ?_) <;> conv => whnf) | (refine br (fun h => ?_) (fun h => ?_) <;> conv => whnf) | (refine ret_now hE ?_; conv => whnf) | (intro hlen; conv => whnf))
  exact ⟨rfl, by rw [e2]⟩
set_option maxHeartbeats 8000000 in
theorem utf_bytes (n : Int) (hl : letB n = true) : Fn1 Try.prog 49 [.int .i64 n] (fun r => r = .lst ((runeB n).map byteV)) := by
  have hr : 0 ≤ n ∧ n ≤ 1114111 ∧ (n < 55296 ∨ 57343 < n) := by unfold letB at hl; exact of_decide_eq_true hl
  have l1 := low_1 n (by omega) (by omega)
  have l2 := low_64 n (by omega) (by omega)
  have l3 := low_4096 n (by omega) (by omega)
  have e1 : n.tdiv 64 = n / 64 := Int.tdiv_eq_ediv_of_nonneg (by omega)
  have e2 : n.tdiv 4096 = n / 4096 := Int.tdiv_eq_ediv_of_nonneg (by omega)
  have e3 : n.tdiv 262144 = n / 262144 := Int.tdiv_eq_ediv_of_nonneg (by omega)
  by_cases h1 : n < 128
  · refine fn1E (T := Try.tt) Try.func49 rfl tt_all follows_all ?_ ?_ fun C hC hE => ?_
    · kernel_rfl
    · exact Nat.le_of_ble_eq_true (by kernel_rfl)
    conv => whnf
    repeat' (first | (refine brd_t (by first | assumption | omega) ?_; conv => whnf) | (refine brd_f (by first | assumption | omega) ?_; conv => whnf) | (refine ask (by first | assumption | omega) ?_; conv => whnf) | (refine fit64 (by omega) ?_; conv => whnf) | (refine fit (by simp only [kmin, kmax]; omega) ?_; conv => whnf) | (refine br_t (by assumption) ?_; conv => whnf) | (refine br_f (by assumption) ?_; conv => whnf) | (refine get_of (by assumption) ?_; conv => whnf) | (refine get_map (by assumption) ?_; conv => whnf) | (refine fit8 (by omega) ?_; conv => whnf) | (refine ret_up (up_frzK 1 2 [] rfl (nrB_nrL _ rfl) rfl rfl rfl (up_here ?_))) | (refine callq_lend 0 l1 hC hasBody_68 rfl ⟨trivial, trivial⟩ rfl rfl rfl rfl ?_; conv => whnf) | (refine brd (fun h => ?_) (fun h => ?_) <;> conv => whnf) | (refine br (fun h => ?_) (fun h => ?_) <;> conv => whnf) | (refine ret_now hE ?_; conv => whnf) | (intro hlen; conv => whnf))
    refine ⟨rfl, ?_⟩
    have hR : runeB n = [ub n] := by unfold runeB; rw [if_pos h1]
    rw [hR]
    simp only [List.map_cons, List.map_nil]
    rw [by_ub (m := n) (by omega)]
  by_cases h2 : n < 2048
  · refine fn1E (T := Try.tt) Try.func49 rfl tt_all follows_all ?_ ?_ fun C hC hE => ?_
    · kernel_rfl
    · exact Nat.le_of_ble_eq_true (by kernel_rfl)
    conv => whnf
    repeat' (first | (refine brd_t (by first | assumption | omega) ?_; conv => whnf) | (refine brd_f (by first | assumption | omega) ?_; conv => whnf) | (refine ask (by first | assumption | omega) ?_; conv => whnf) | (refine fit64 (by omega) ?_; conv => whnf) | (refine fit (by simp only [kmin, kmax]; omega) ?_; conv => whnf) | (refine br_t (by assumption) ?_; conv => whnf) | (refine br_f (by assumption) ?_; conv => whnf) | (refine get_of (by assumption) ?_; conv => whnf) | (refine get_map (by assumption) ?_; conv => whnf) | (refine fit8 (by omega) ?_; conv => whnf) | (refine ret_up (up_frzK 1 2 [] rfl (nrB_nrL _ rfl) rfl rfl rfl (up_here ?_))) | (refine callq_lend 0 l1 hC hasBody_68 rfl ⟨trivial, trivial⟩ rfl rfl rfl rfl ?_; conv => whnf) | (refine brd (fun h => ?_) (fun h => ?_) <;> conv => whnf) | (refine br (fun h => ?_) (fun h => ?_) <;> conv => whnf) | (refine ret_now hE ?_; conv => whnf) | (intro hlen; conv => whnf))
    refine ⟨rfl, ?_⟩
    have hR : runeB n = [ub (192 + n / 64), ub (128 + n % 64)] := by unfold runeB; rw [if_neg h1, if_pos h2]
    rw [hR]
    simp only [List.map_cons, List.map_nil]
    rw [by_ub (m := 192 + n / 64) (by omega), by_ub (m := 128 + n % 64) (by omega)]
    show V.lst [V.int .u8 (192 + n.tdiv 64), V.int .u8 (128 + n / 1 % 64)] = _
    rw [e1, Int.ediv_one]
  by_cases h3 : n < 65536
  · refine fn1E (T := Try.tt) Try.func49 rfl tt_all follows_all ?_ ?_ fun C hC hE => ?_
    · kernel_rfl
    · exact Nat.le_of_ble_eq_true (by kernel_rfl)
    conv => whnf
    repeat' (first | (refine brd_t (by first | assumption | omega) ?_; conv => whnf) | (refine brd_f (by first | assumption | omega) ?_; conv => whnf) | (refine ask (by first | assumption | omega) ?_; conv => whnf) | (refine fit64 (by omega) ?_; conv => whnf) | (refine fit (by simp only [kmin, kmax]; omega) ?_; conv => whnf) | (refine br_t (by assumption) ?_; conv => whnf) | (refine br_f (by assumption) ?_; conv => whnf) | (refine get_of (by assumption) ?_; conv => whnf) | (refine get_map (by assumption) ?_; conv => whnf) | (refine fit8 (by omega) ?_; conv => whnf) | (refine ret_up (up_frzK 1 2 [] rfl (nrB_nrL _ rfl) rfl rfl rfl (up_here ?_))) | (refine callq_lend 0 l1 hC hasBody_68 rfl ⟨trivial, trivial⟩ rfl rfl rfl rfl ?_; conv => whnf) | (refine callq_lend 0 l2 hC hasBody_68 rfl ⟨trivial, trivial⟩ rfl rfl rfl rfl ?_; conv => whnf) | (refine brd (fun h => ?_) (fun h => ?_) <;> conv => whnf) | (refine br (fun h => ?_) (fun h => ?_) <;> conv => whnf) | (refine ret_now hE ?_; conv => whnf) | (intro hlen; conv => whnf))
    refine ⟨rfl, ?_⟩
    have hR : runeB n = [ub (224 + n / 4096), ub (128 + n / 64 % 64), ub (128 + n % 64)] := by unfold runeB; rw [if_neg h1, if_neg h2, if_pos h3]
    rw [hR]
    simp only [List.map_cons, List.map_nil]
    rw [by_ub (m := 224 + n / 4096) (by omega), by_ub (m := 128 + n / 64 % 64) (by omega), by_ub (m := 128 + n % 64) (by omega)]
    show V.lst [V.int .u8 (224 + n.tdiv 4096), V.int .u8 (128 + n / 64 % 64), V.int .u8 (128 + n / 1 % 64)] = _
    rw [e2, Int.ediv_one]
  · refine fn1E (T := Try.tt) Try.func49 rfl tt_all follows_all ?_ ?_ fun C hC hE => ?_
    · kernel_rfl
    · exact Nat.le_of_ble_eq_true (by kernel_rfl)
    conv => whnf
    repeat' (first | (refine brd_t (by first | assumption | omega) ?_; conv => whnf) | (refine brd_f (by first | assumption | omega) ?_; conv => whnf) | (refine ask (by first | assumption | omega) ?_; conv => whnf) | (refine fit64 (by omega) ?_; conv => whnf) | (refine fit (by simp only [kmin, kmax]; omega) ?_; conv => whnf) | (refine br_t (by assumption) ?_; conv => whnf) | (refine br_f (by assumption) ?_; conv => whnf) | (refine get_of (by assumption) ?_; conv => whnf) | (refine get_map (by assumption) ?_; conv => whnf) | (refine fit8 (by omega) ?_; conv => whnf) | (refine ret_up (up_frzK 1 2 [] rfl (nrB_nrL _ rfl) rfl rfl rfl (up_here ?_))) | (refine callq_lend 0 l1 hC hasBody_68 rfl ⟨trivial, trivial⟩ rfl rfl rfl rfl ?_; conv => whnf) | (refine callq_lend 0 l2 hC hasBody_68 rfl ⟨trivial, trivial⟩ rfl rfl rfl rfl ?_; conv => whnf) | (refine callq_lend 0 l3 hC hasBody_68 rfl ⟨trivial, trivial⟩ rfl rfl rfl rfl ?_; conv => whnf) | (refine brd (fun h => ?_) (fun h => ?_) <;> conv => whnf) | (refine br (fun h => ?_) (fun h => ?_) <;> conv => whnf) | (refine ret_now hE ?_; conv => whnf) | (intro hlen; conv => whnf))
    refine ⟨rfl, ?_⟩
    have hR : runeB n = [ub (240 + n / 262144), ub (128 + n / 4096 % 64), ub (128 + n / 64 % 64), ub (128 + n % 64)] := by unfold runeB; rw [if_neg h1, if_neg h2, if_neg h3]
    rw [hR]
    simp only [List.map_cons, List.map_nil]
    rw [by_ub (m := 240 + n / 262144) (by omega), by_ub (m := 128 + n / 4096 % 64) (by omega), by_ub (m := 128 + n / 64 % 64) (by omega), by_ub (m := 128 + n % 64) (by omega)]
    show V.lst [V.int .u8 (240 + n.tdiv 262144), V.int .u8 (128 + n / 4096 % 64), V.int .u8 (128 + n / 64 % 64), V.int .u8 (128 + n / 1 % 64)] = _
    rw [e3, Int.ediv_one]
theorem cells_b (x : Int) : ∀ y ∈ (runeB x).map byteV, y.cells.length = 1 := fun y hy => by obtain ⟨q, _, rfl⟩ := List.mem_map.1 hy; rfl
set_option maxHeartbeats 8000000 in
theorem doc_utf_text (l : List Int) : Fn1 Try.prog 37 [ints l] (fun r => r = utfR l) := by
  have hlm : (l.map (V.int .i64)).length = l.length := by simp
  refine fn1E (T := Try.tt) Try.func37 rfl tt_all follows_all ?_ ?_ fun C hC hE => ?_
  · kernel_rfl
  · exact Nat.le_of_ble_eq_true (by kernel_rfl)
  conv => whnf
  repeat' (first | (refine brd_t (by first | assumption | omega) ?_; conv => whnf) | (refine brd_f (by first | assumption | omega) ?_; conv => whnf) | (refine ask (by first | assumption | omega) ?_; conv => whnf) | (refine fit64 (by omega) ?_; conv => whnf) | (refine fit (by simp only [kmin, kmax]; omega) ?_; conv => whnf) | (refine br_t (by assumption) ?_; conv => whnf) | (refine br_f (by assumption) ?_; conv => whnf) | (refine get_of (by assumption) ?_; conv => whnf) | (refine get_map (by assumption) ?_; conv => whnf) | (refine brd (fun h => ?_) (fun h => ?_) <;> conv => whnf) | (refine br (fun h => ?_) (fun h => ?_) <;> conv => whnf) | (refine ret_now hE ?_; conv => whnf) | (intro hlen; conv => whnf))
  refine loopE (fun ((k, o) : Nat × List UInt8) => ⟨29, [(4, .str o), (7, ints l), (8, .int .i64 (l.map (V.int .i64)).length), (9, .int .i64 k)], []⟩)
    (fun (k, o) => k ≤ l.length ∧ (o = flatR (l.take k) ∨ (600 < o.length ∧ 600 < (flatR (l.take k)).length)) ∧ ∀ j < k, ∀ x, l[j]? = some x → letB x = true) (fun (k, _) => l.length - k) (0, []) hE ?_ ?_ ⟨Nat.zero_le _, .inl (by simp [flatR]), fun j hj => by omega⟩ ?_
  · kernel_rfl
  · exact at_keep [4, 7, 8, 9] rfl
  rintro ⟨k, o⟩ ⟨hk, ho, hall⟩
  by_cases hlt : k < l.length
  · obtain ⟨x, hx⟩ : ∃ x, l[k]? = some x := ⟨_, List.getElem?_eq_getElem hlt⟩
    have hv := is_letter x
    have hrl := runeB_len x
    have hst := flatR_step hx
    have hnext : letB x = true → ∀ j < k + 1, ∀ y, l[j]? = some y → letB y = true := fun hl j hj y hy => by
      by_cases e : j = k
      · subst e; rw [hx] at hy; cases hy; exact hl
      · exact hall j (by omega) y hy
    cases hl : letB x with
    | false =>
      rw [hl] at hv
      conv => whnf
      repeat' (first | (refine brd_t (by first | assumption | omega) ?_; conv => whnf) | (refine brd_f (by first | assumption | omega) ?_; conv => whnf) | (refine ask (by first | assumption | omega) ?_; conv => whnf) | (refine fit64 (by omega) ?_; conv => whnf) | (refine fit (by simp only [kmin, kmax]; omega) ?_; conv => whnf) | (refine br_t (by assumption) ?_; conv => whnf) | (refine br_f (by assumption) ?_; conv => whnf) | (refine get_of (by assumption) ?_; conv => whnf) | (refine get_map (by assumption) ?_; conv => whnf) | (refine call_eq (hv) hC hasBody_61 ?_ ?_ ?_; kernel_rfl; kernel_rfl; conv => whnf) | (refine callq_eq (hv) hC hasBody_61 ?_ ?_ ?_; kernel_rfl; kernel_rfl; conv => whnf) | (refine brd (fun h => ?_) (fun h => ?_) <;> conv => whnf) | (refine br (fun h => ?_) (fun h => ?_) <;> conv => whnf) | (refine ret_now hE ?_; conv => whnf) | (intro hlen; conv => whnf))
      all_goals exact ⟨rfl, (utfR_bad hx hl).symm⟩
    | true =>
      have hu := utf_bytes x hl
      rw [hl] at hv
      by_cases h6 : o.length ≤ 600
      · have hof : o = flatR (l.take k) := by
          rcases ho with h | h
          · exact h
          · omega
        conv => whnf
        repeat' (first | (refine brd_t (by first | assumption | omega) ?_; conv => whnf) | (refine brd_f (by first | assumption | omega) ?_; conv => whnf) | (refine ask (by first | assumption | omega) ?_; conv => whnf) | (refine fit64 (by omega) ?_; conv => whnf) | (refine fit (by simp only [kmin, kmax]; omega) ?_; conv => whnf) | (refine br_t (by assumption) ?_; conv => whnf) | (refine br_f (by assumption) ?_; conv => whnf) | (refine get_of (by assumption) ?_; conv => whnf) | (refine get_map (by assumption) ?_; conv => whnf) | (refine call_eq (hv) hC hasBody_61 ?_ ?_ ?_; kernel_rfl; kernel_rfl; conv => whnf) | (refine callq_eq (hv) hC hasBody_61 ?_ ?_ ?_; kernel_rfl; kernel_rfl; conv => whnf) | (refine call_eq (hu) hC hasBody_49 ?_ ?_ ?_; kernel_rfl; kernel_rfl; conv => whnf) | (refine callq_eq (hu) hC hasBody_49 ?_ ?_ ?_; kernel_rfl; kernel_rfl; conv => whnf) | (refine ⟨cells_b x, ?_⟩; conv => whnf) | (refine ⟨runeB x, rfl, by omega, ?_⟩; conv => whnf) | (refine ask (by omega) ?_; conv => whnf) | (refine brd (fun h => ?_) (fun h => ?_) <;> conv => whnf) | (refine br (fun h => ?_) (fun h => ?_) <;> conv => whnf) | (refine ret_now hE ?_; conv => whnf) | (intro hlen; conv => whnf))
        exact next_keep [4, 7, 8, 9] (k + 1, o ++ runeB x) ⟨hlt, .inl (by rw [hst, ← hof]), hnext hl⟩ (show l.length - (k + 1) < l.length - k by omega) rfl
      · conv => whnf
        repeat' (first | (refine brd_t (by first | assumption | omega) ?_; conv => whnf) | (refine brd_f (by first | assumption | omega) ?_; conv => whnf) | (refine ask (by first | assumption | omega) ?_; conv => whnf) | (refine fit64 (by omega) ?_; conv => whnf) | (refine fit (by simp only [kmin, kmax]; omega) ?_; conv => whnf) | (refine br_t (by assumption) ?_; conv => whnf) | (refine br_f (by assumption) ?_; conv => whnf) | (refine get_of (by assumption) ?_; conv => whnf) | (refine get_map (by assumption) ?_; conv => whnf) | (refine call_eq (hv) hC hasBody_61 ?_ ?_ ?_; kernel_rfl; kernel_rfl; conv => whnf) | (refine callq_eq (hv) hC hasBody_61 ?_ ?_ ?_; kernel_rfl; kernel_rfl; conv => whnf) | (refine brd (fun h => ?_) (fun h => ?_) <;> conv => whnf) | (refine br (fun h => ?_) (fun h => ?_) <;> conv => whnf) | (refine ret_now hE ?_; conv => whnf) | (intro hlen; conv => whnf))
        refine next_keep [4, 7, 8, 9] (k + 1, o) ⟨hlt, .inr ⟨by omega, ?_⟩, hnext hl⟩ (show l.length - (k + 1) < l.length - k by omega) rfl
        rw [hst, List.length_append]
        rcases ho with h | h
        · rw [← h]; omega
        · omega
  · have hal := all_of (by omega) hall
    rw [List.take_of_length_le (by omega)] at ho
    conv => whnf
    repeat' (first | (refine brd_t (by first | assumption | omega) ?_; conv => whnf) | (refine brd_f (by first | assumption | omega) ?_; conv => whnf) | (refine ask (by first | assumption | omega) ?_; conv => whnf) | (refine fit64 (by omega) ?_; conv => whnf) | (refine fit (by simp only [kmin, kmax]; omega) ?_; conv => whnf) | (refine br_t (by assumption) ?_; conv => whnf) | (refine br_f (by assumption) ?_; conv => whnf) | (refine get_of (by assumption) ?_; conv => whnf) | (refine get_map (by assumption) ?_; conv => whnf) | (refine brd (fun h => ?_) (fun h => ?_) <;> conv => whnf) | (refine br (fun h => ?_) (fun h => ?_) <;> conv => whnf) | (refine ret_now hE ?_; conv => whnf) | (intro hlen; conv => whnf))
    · refine ⟨rfl, ?_⟩
      unfold utfR
      rw [if_pos hal, if_pos]
      rcases ho with h | h
      · rw [← h]; omega
      · omega
    · have hof : o = flatR l := by
        rcases ho with h | h
        · exact h
        · omega
      exact ⟨rfl, by unfold utfR; rw [if_pos hal, ← hof, if_neg (by omega)]⟩
theorem utfTexts_law (l : List Int) (hsz : l.length * 8 ≤ 140737488351232) : Fn1 Try.prog 13 [ints l] (fun r => r = .bool true) := by
  have h1 := utf_text l hsz
  have h2 := doc_utf_text l
  obtain ⟨s, e, hr⟩ : ∃ s e, utfR l = .tup [.str s, .int .i64 e] := by unfold utfR; (repeat' split) <;> exact ⟨_, _, rfl⟩
  rw [hr] at h1 h2
  refine fn1E (T := Try.tt) Try.func13 rfl tt_all follows_all ?_ ?_ fun C hC hE => ?_
  · kernel_rfl
  · exact Nat.le_of_ble_eq_true (by kernel_rfl)
  conv => whnf
  repeat' (first | (refine brd_t (by first | assumption | omega) ?_; conv => whnf) | (refine brd_f (by first | assumption | omega) ?_; conv => whnf) | (refine ask (by first | assumption | omega) ?_; conv => whnf) | (refine fit64 (by omega) ?_; conv => whnf) | (refine fit (by simp only [kmin, kmax]; omega) ?_; conv => whnf) | (refine br_t (by assumption) ?_; conv => whnf) | (refine br_f (by assumption) ?_; conv => whnf) | (refine get_of (by assumption) ?_; conv => whnf) | (refine get_map (by assumption) ?_; conv => whnf) | (refine brd_t rfl ?_; conv => whnf) | (refine call_eq (h1) hC hasBody_36 ?_ ?_ ?_; kernel_rfl; kernel_rfl; conv => whnf) | (refine callq_eq (h1) hC hasBody_36 ?_ ?_ ?_; kernel_rfl; kernel_rfl; conv => whnf) | (refine call_eq (h2) hC hasBody_37 ?_ ?_ ?_; kernel_rfl; kernel_rfl; conv => whnf) | (refine callq_eq (h2) hC hasBody_37 ?_ ?_ ?_; kernel_rfl; kernel_rfl; conv => whnf) | (refine brd (fun h => ?_) (fun h => ?_) <;> conv => whnf) | (refine br (fun h => ?_) (fun h => ?_) <;> conv => whnf) | (refine ret_now hE ?_; conv => whnf) | (intro hlen; conv => whnf))
  exact ⟨rfl, rfl⟩
end Go.Proofs.Yteabokphchpifaa
