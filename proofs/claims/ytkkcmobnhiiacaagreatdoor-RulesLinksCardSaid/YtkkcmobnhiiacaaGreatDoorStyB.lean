/- Styles: styleTrim and placeOf of the document, walked. No conditions. -/
import Derived.Test.YtkkcmobnhiiacaaGreatDoorSty
set_option linter.unusedSimpArgs false
set_option linter.unusedVariables false
set_option maxRecDepth 100000
namespace Go.Proofs.YtkkcmobnhiiacaaGreatDoor
open Go.RowKit

/-! ### placeOf -/
theorem pre_eq {find s : List UInt8} : find.isPrefixOf s = true ↔ s.take find.length = find := by
  rw [List.isPrefixOf_iff_prefix, List.prefix_iff_eq_take]
  exact ⟨fun h => h.symm, fun h => h.symm⟩
theorem index_short {sub : List UInt8} : ∀ {s : List UInt8}, s.length < sub.length → Lib.index s sub = -1
  | [], h => index_nil (by intro e; rw [e] at h; simp at h)
  | c :: s, h => by
    rw [index_cons, if_neg, if_pos (index_short (by simp only [List.length_cons] at h; omega))]
    intro e
    have := (List.isPrefixOf_iff_prefix.1 e).length_le
    omega
def plc (s find : List UInt8) (from' : Nat) : Int := if Lib.index (s.drop from') find = -1 then -1 else Lib.index (s.drop from') find + from'
theorem plc_hit {s find : List UInt8} {i : Nat} (h : (s.drop i).take find.length = find) (hi : i + find.length ≤ s.length) (hf : find ≠ []) : plc s find i = i := by
  have hl : i < s.length := by
    have := List.length_pos_iff.2 hf
    omega
  have hd : s.drop i = s[i] :: s.drop (i + 1) := List.drop_eq_getElem_cons hl
  have hp : find.isPrefixOf (s[i] :: s.drop (i + 1)) = true := by rw [← hd]; exact pre_eq.2 h
  have e : Lib.index (s.drop i) find = 0 := by rw [hd, index_cons, if_pos hp]
  unfold plc
  rw [e, if_neg (by decide)]
  simp
theorem plc_miss {s find : List UInt8} {i : Nat} (h : ¬ (s.drop i).take find.length = find) (hl : i < s.length) : plc s find i = plc s find (i + 1) := by
  have hd : s.drop i = s[i] :: s.drop (i + 1) := List.drop_eq_getElem_cons hl
  have hp : ¬ find.isPrefixOf (s[i] :: s.drop (i + 1)) = true := by rw [← hd]; exact fun e => h (pre_eq.1 e)
  have hlow := index_low (s.drop (i + 1)) find
  by_cases hm : Lib.index (s.drop (i + 1)) find = -1
  · have e : Lib.index (s.drop i) find = -1 := by rw [hd, index_cons, if_neg hp, if_pos hm]
    unfold plc
    rw [if_pos e, if_pos hm]
  · have e : Lib.index (s.drop i) find = Lib.index (s.drop (i + 1)) find + 1 := by rw [hd, index_cons, if_neg hp, if_neg hm]
    unfold plc
    rw [if_neg (by omega), if_neg hm, e]
    push_cast
    omega
theorem plc_end {s find : List UInt8} {i : Nat} (h : s.length < i + find.length) (hi : i ≤ s.length) : plc s find i = -1 := by
  unfold plc
  rw [if_pos (index_short (by rw [List.length_drop]; omega))]
theorem cut_at (s : List UInt8) (i n : Nat) : (s.take (i + n)).drop i = (s.drop i).take n := by
  rw [List.drop_take]
  congr 1
  omega
set_option maxHeartbeats 4000000 in
theorem place_ofL (s find : List UInt8) (k : Nat) (hf : find ≠ []) (hk : k ≤ s.length) (hs : s.length ≤ 140737488352000) (hfl : find.length ≤ 140737488352000) : Fn1 Tryz.prog 26 [.str s, .str find, .int .i64 (k : Nat)] (fun r => r = .int .i64 (plc s find k)) := by
  refine fn1E (T := Tryz.tt) Tryz.func26 rfl tt_all follows_all ?_ ?_ fun C hC hE => ?_
  · kernel_rfl
  · exact Nat.le_of_ble_eq_true (by kernel_rfl)
  conv => whnf
  repeat' (first | (refine brd_t (by first | assumption | omega) ?_; conv => whnf) | (refine brd_f (by first | assumption | omega) ?_; conv => whnf) | (refine ask (by first | assumption | omega) ?_; conv => whnf) | (refine fit64 (by omega) ?_; conv => whnf) | (refine fit (by simp only [kmin, kmax]; omega) ?_; conv => whnf) | (refine br_t (by assumption) ?_; conv => whnf) | (refine br_f (by assumption) ?_; conv => whnf) | (refine get_of (by assumption) ?_; conv => whnf) | (refine get_map (by assumption) ?_; conv => whnf) | (refine draw_lex hE ?_ ?_; decide +kernel; conv => whnf) | (refine brd (fun h => ?_) (fun h => ?_) <;> conv => whnf) | (refine br (fun h => ?_) (fun h => ?_) <;> conv => whnf) | (refine ret_now hE ?_; conv => whnf) | (intro hlen; conv => whnf) | (refine seg_here ?_; conv => whnf) | (refine both ?_ ?_ <;> conv => whnf))
  refine loopE (fun i : Nat => ⟨28, [(0, .str s), (1, .str find), (7, .int .i64 (i : Nat))], []⟩) (fun i => i ≤ s.length ∧ plc s find k = plc s find i) (fun i => s.length - i) k hE ?_ ?_ ⟨hk, rfl⟩ ?_
  · kernel_rfl
  · exact at_keep [0, 1, 7] rfl
  rintro i ⟨hi, hI⟩
  have hI : plc s find k = plc s find i := hI
  have hi : i ≤ s.length := hi
  by_cases hlt : i + find.length ≤ s.length
  · have hpos := List.length_pos_iff.2 hf
    have hcut : (s.take ((i : Int) + find.length).toNat).drop ((i : Int)).toNat = (s.drop i).take find.length := by
      rw [show ((i : Int) + find.length).toNat = i + find.length by omega, show ((i : Int)).toNat = i by omega, cut_at]
    by_cases hm : (s.drop i).take find.length = find
    · rw [hI, plc_hit hm hlt hf]
      have hm2 : (s.take ((i : Int) + find.length).toNat).drop ((i : Int)).toNat = find := by rw [hcut, hm]
      conv => whnf
      repeat' (first | (refine brd_t (by first | assumption | omega) ?_; conv => whnf) | (refine brd_f (by first | assumption | omega) ?_; conv => whnf) | (refine ask (by first | assumption | omega) ?_; conv => whnf) | (refine fit64 (by omega) ?_; conv => whnf) | (refine fit (by simp only [kmin, kmax]; omega) ?_; conv => whnf) | (refine br_t (by assumption) ?_; conv => whnf) | (refine br_f (by assumption) ?_; conv => whnf) | (refine get_of (by assumption) ?_; conv => whnf) | (refine get_map (by assumption) ?_; conv => whnf) | (refine draw_lex hE ?_ ?_; decide +kernel; conv => whnf) | (refine brd (fun h => ?_) (fun h => ?_) <;> conv => whnf) | (refine br (fun h => ?_) (fun h => ?_) <;> conv => whnf) | (refine ret_now hE ?_; conv => whnf) | (intro hlen; conv => whnf) | (refine seg_here ?_; conv => whnf) | (refine both ?_ ?_ <;> conv => whnf))
      all_goals exact ⟨rfl, rfl⟩
    · have hm2 : ¬ (s.take ((i : Int) + find.length).toNat).drop ((i : Int)).toNat = find := by rw [hcut]; exact hm
      have hl : i < s.length := by omega
      have hst := plc_miss hm hl
      conv => whnf
      repeat' (first | (refine brd_t (by first | assumption | omega) ?_; conv => whnf) | (refine brd_f (by first | assumption | omega) ?_; conv => whnf) | (refine ask (by first | assumption | omega) ?_; conv => whnf) | (refine fit64 (by omega) ?_; conv => whnf) | (refine fit (by simp only [kmin, kmax]; omega) ?_; conv => whnf) | (refine br_t (by assumption) ?_; conv => whnf) | (refine br_f (by assumption) ?_; conv => whnf) | (refine get_of (by assumption) ?_; conv => whnf) | (refine get_map (by assumption) ?_; conv => whnf) | (refine draw_lex hE ?_ ?_; decide +kernel; conv => whnf) | (refine brd (fun h => ?_) (fun h => ?_) <;> conv => whnf) | (refine br (fun h => ?_) (fun h => ?_) <;> conv => whnf) | (refine ret_now hE ?_; conv => whnf) | (intro hlen; conv => whnf) | (refine seg_here ?_; conv => whnf) | (refine both ?_ ?_ <;> conv => whnf))
      all_goals exact next_keep [0, 1, 7] (i + 1) ⟨hl, hI.trans hst⟩ (show s.length - (i + 1) < s.length - i by omega) rfl
  · rw [hI, plc_end (by omega) hi]
    conv => whnf
    repeat' (first | (refine brd_t (by first | assumption | omega) ?_; conv => whnf) | (refine brd_f (by first | assumption | omega) ?_; conv => whnf) | (refine ask (by first | assumption | omega) ?_; conv => whnf) | (refine fit64 (by omega) ?_; conv => whnf) | (refine fit (by simp only [kmin, kmax]; omega) ?_; conv => whnf) | (refine br_t (by assumption) ?_; conv => whnf) | (refine br_f (by assumption) ?_; conv => whnf) | (refine get_of (by assumption) ?_; conv => whnf) | (refine get_map (by assumption) ?_; conv => whnf) | (refine draw_lex hE ?_ ?_; decide +kernel; conv => whnf) | (refine brd (fun h => ?_) (fun h => ?_) <;> conv => whnf) | (refine br (fun h => ?_) (fun h => ?_) <;> conv => whnf) | (refine ret_now hE ?_; conv => whnf) | (intro hlen; conv => whnf) | (refine seg_here ?_; conv => whnf) | (refine both ?_ ?_ <;> conv => whnf))
    all_goals exact ⟨rfl, rfl⟩

theorem place_of (s find : List UInt8) (k : Nat) (hf : find ≠ []) (hk : k ≤ s.length) (hs : s.length ≤ 1048576) (hfl : find.length ≤ 1048576) : Fn1 Tryz.prog 26 [.str s, .str find, .int .i64 (k : Nat)] (fun r => r = .int .i64 (plc s find k)) := place_ofL s find k hf hk (by omega) (by omega)
/-! ### styleTrim -/
theorem eq_nil_snoc {α : Type} (l : List α) : l = [] ∨ ∃ a b, l = a ++ [b] := by
  rcases List.eq_nil_or_concat l with h | ⟨a, b, h⟩
  · exact .inl h
  · exact .inr ⟨a, b, by rw [h, List.concat_eq_append]⟩
theorem trR_snoc (p : UInt8 → Bool) (l : List UInt8) (c : UInt8) : trR p (l ++ [c]) = if p c = true then trR p l else l ++ [c] := by
  rw [← trR_eq, ← trR_eq, List.reverse_append, List.reverse_singleton, List.singleton_append]
  by_cases h : p c = true
  · rw [List.dropWhile_cons, if_pos h, if_pos h]
  · rw [List.dropWhile_cons, if_neg h, if_neg h, List.reverse_cons, List.reverse_reverse]
end Go.Proofs.YtkkcmobnhiiacaaGreatDoor
