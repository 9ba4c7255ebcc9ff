/- style.bare and style.pieces, walked. No conditions. -/
import Derived.Test.YtaeeceabnkgnnaaDoorStyB
import Derived.Test.YtaeeceabnkgnnaaDoorBldd
set_option linter.unusedSimpArgs false
set_option linter.unusedVariables false
set_option maxRecDepth 100000
namespace Go.Proofs.YtaeeceabnkgnnaaDoor
open Go.RowKit

theorem cut_hit {s sep : List UInt8} (h : 0 ≤ Lib.index s sep) : Lib.cut s sep = (s.take (Lib.index s sep).toNat, s.drop ((Lib.index s sep).toNat + sep.length), true) := if_pos h
theorem cut_miss {s sep : List UInt8} (h : ¬ 0 ≤ Lib.index s sep) : Lib.cut s sep = (s, [], false) := if_neg h
theorem bareP_step {n : Nat} {s a b : List UInt8} {is : Bool} (h : Lib.cut s [47, 42] = (a, b, is)) : bareP (n + 1) s = if is = false then a else a ++ (if (Lib.cut b [42, 47]).2.2 = false then [] else bareP n (Lib.cut b [42, 47]).2.1) := by
  have hl := index_low s [47, 42]
  by_cases h0 : 0 ≤ Lib.index s [47, 42]
  · rw [cut_hit h0] at h
    have h1 : ¬ Lib.index s [47, 42] = -1 := by omega
    rw [bareP, if_neg h1]
    cases h
    have e2 : ([47, 42] : List UInt8).length = 2 := rfl
    have e3 : ([42, 47] : List UInt8).length = 2 := rfl
    rw [e2]
    generalize s.drop ((Lib.index s [47, 42]).toNat + 2) = b
    have hl2 := index_low b [42, 47]
    rw [if_neg (show ¬ true = false by simp)]
    congr 1
    by_cases h2 : 0 ≤ Lib.index b [42, 47]
    · have h3 : ¬ Lib.index b [42, 47] = -1 := by omega
      rw [cut_hit h2, if_neg h3, if_neg (show ¬ true = false by simp), e3]
    · have h3 : Lib.index b [42, 47] = -1 := by omega
      rw [cut_miss h2, if_pos h3, if_pos rfl]
  · have h1 : Lib.index s [47, 42] = -1 := by omega
    rw [cut_miss h0] at h
    cases h
    rw [bareP, if_pos h1, if_pos rfl]
theorem bareP_nil (n : Nat) : bareP n [] = [] := by
  cases n with
  | zero => rfl
  | succ n => rw [bareP, if_pos (index_nil (by simp))]
theorem index_room {sub : List UInt8} (hs : sub ≠ []) : ∀ s : List UInt8, 0 ≤ Lib.index s sub → (Lib.index s sub).toNat + sub.length ≤ s.length
  | [], h => by rw [index_nil hs] at h; omega
  | c :: s, h => by
    rw [index_cons] at h ⊢
    by_cases hp : sub.isPrefixOf (c :: s) = true
    · rw [if_pos hp] at h ⊢
      have := (List.isPrefixOf_iff_prefix.1 hp).length_le
      simpa using this
    · rw [if_neg hp] at h ⊢
      by_cases hm : Lib.index s sub = -1
      · rw [if_pos hm] at h; omega
      · rw [if_neg hm] at h ⊢
        have := index_low s sub
        have ih := index_room hs s (by omega)
        simp only [List.length_cons]
        omega
theorem cut_short {s a b sep : List UInt8} (h : Lib.cut s sep = (a, b, true)) (hs : sep ≠ []) : a.length + b.length < s.length := by
  have hp := List.length_pos_iff.2 hs
  by_cases h0 : 0 ≤ Lib.index s sep
  · rw [cut_hit h0] at h
    cases h
    have hsn : 0 < s.length := by
      rcases Nat.eq_zero_or_pos s.length with e | e
      · rw [List.length_eq_zero_iff.1 e, index_nil hs] at h0
        omega
      · exact e
    have hr := index_room hs s h0
    simp only [List.length_take, List.length_drop]
    omega
  · rw [cut_miss h0] at h
    cases h
set_option maxHeartbeats 8000000 in
theorem style_bare (s : List UInt8) (hs : s.length ≤ 1048576) : Fn1G Tryd.prog GM 41 [.str s] (fun r => r = .str (bareP (s.length + 1) s)) := by
  refine fn1GE (T := Tryd.tt) Tryd.func41 rfl tt_all follows_all ?_ ?_ fun C hC hW hG hE => ?_
  · kernel_rfl
  · exact Nat.le_of_ble_eq_true (by kernel_rfl)
  conv => whnf
  repeat' (first | (refine brd_t (by first | assumption | omega) ?_; conv => whnf) | (refine brd_f (by first | assumption | omega) ?_; conv => whnf) | (refine ask (by first | assumption | omega) ?_; conv => whnf) | (refine fit64 (by omega) ?_; conv => whnf) | (refine fit (by simp only [kmin, kmax]; omega) ?_; conv => whnf) | (refine br_t (by assumption) ?_; conv => whnf) | (refine br_f (by assumption) ?_; conv => whnf) | (refine get_of (by assumption) ?_; conv => whnf) | (refine get_map (by assumption) ?_; conv => whnf) | (refine draw_lex hE ?_ ?_; decide +kernel; conv => whnf) | (refine brd (fun h => ?_) (fun h => ?_) <;> conv => whnf) | (refine br (fun h => ?_) (fun h => ?_) <;> conv => whnf) | (refine ret_now hE ?_; conv => whnf) | (intro hlen; conv => whnf) | (refine seg_here ?_; conv => whnf) | (refine both ?_ ?_ <;> conv => whnf))
  refine loopE (fun ((n, t, o) : Nat × List UInt8 × List UInt8) => ⟨27, [(0, .str t), (3, .ptr 0 0 0)], [some (.bld 47 (some (1, o.length))), some (.buf 5 o)]⟩)
    (fun (n, t, o) => t.length < n ∧ o.length + t.length ≤ s.length ∧ o ++ bareP n t = bareP (s.length + 1) s) (fun (n, _) => n) (s.length + 1, s, []) hE ?_ ?_ ⟨Nat.lt_succ_self _, Nat.le_of_eq (Nat.zero_add _), rfl⟩ ?_
  · kernel_rfl
  · exact up_buf 0 5 rfl (at_keep [0, 3] rfl)
  rintro ⟨n, t, o⟩ ⟨hn, hot, hI⟩
  have hn : t.length < n := hn
  have hot : o.length + t.length ≤ s.length := hot
  have hI : o ++ bareP n t = bareP (s.length + 1) s := hI
  cases n with
  | zero => omega
  | succ n =>
  have hc1 := (cut_walk t [47, 42] (by omega)).c hC hW kept_gm hG
  obtain ⟨a, b, is, hcut⟩ : ∃ a b is, Lib.cut t [47, 42] = (a, b, is) := ⟨_, _, _, rfl⟩
  have hst := bareP_step (n := n) hcut
  have hcl := cut_len t [47, 42]
  rw [hcut] at hc1 hcl
  simp only at hc1 hcl
  cases is with
  | false =>
    rw [if_pos rfl] at hst
    rw [hst] at hI
    conv => whnf
    repeat' (first | (refine brd_t (by first | assumption | omega) ?_; conv => whnf) | (refine brd_f (by first | assumption | omega) ?_; conv => whnf) | (refine ask (by first | assumption | omega) ?_; conv => whnf) | (refine fit64 (by omega) ?_; conv => whnf) | (refine fit (by simp only [kmin, kmax]; omega) ?_; conv => whnf) | (refine br_t (by assumption) ?_; conv => whnf) | (refine br_f (by assumption) ?_; conv => whnf) | (refine get_of (by assumption) ?_; conv => whnf) | (refine get_map (by assumption) ?_; conv => whnf) | (refine callc_eq (hc1) hC hasBody_42 rfl ?_ ?_ ?_; kernel_rfl; kernel_rfl; conv => whnf) | (refine callcq_eq (hc1) hC hasBody_42 rfl ?_ ?_ ?_; kernel_rfl; kernel_rfl; conv => whnf) | (refine call_ws hC 0 1 (by decide) ?_ rfl rfl rfl ?_; omega; conv => whnf) | (refine call_str hC 0 1 (by decide) rfl rfl rfl ?_; conv => whnf) | (refine draw_lex hE ?_ ?_; decide +kernel; conv => whnf) | (refine brd (fun h => ?_) (fun h => ?_) <;> conv => whnf) | (refine br (fun h => ?_) (fun h => ?_) <;> conv => whnf) | (refine ret_now hE ?_; conv => whnf) | (intro hlen; conv => whnf) | (refine seg_here ?_; conv => whnf) | (refine both ?_ ?_ <;> conv => whnf))
    all_goals exact ⟨rfl, by rw [hI]⟩
  | true =>
    have hsh := cut_short hcut (by simp)
    rw [if_neg (by decide)] at hst
    have hc2 := (cut_walk b [42, 47] (by omega)).c hC hW kept_gm hG
    obtain ⟨a2, b2, is2, hcut2⟩ : ∃ a2 b2 is2, Lib.cut b [42, 47] = (a2, b2, is2) := ⟨_, _, _, rfl⟩
    have hcl2 := cut_len b [42, 47]
    rw [hcut2] at hc2 hst hcl2
    simp only at hc2 hst hcl2
    cases is2 with
    | false =>
      rw [if_pos rfl, List.append_nil] at hst
      rw [hst] at hI
      conv => whnf
      repeat' (first | (refine brd_t (by first | assumption | omega) ?_; conv => whnf) | (refine brd_f (by first | assumption | omega) ?_; conv => whnf) | (refine ask (by first | assumption | omega) ?_; conv => whnf) | (refine fit64 (by omega) ?_; conv => whnf) | (refine fit (by simp only [kmin, kmax]; omega) ?_; conv => whnf) | (refine br_t (by assumption) ?_; conv => whnf) | (refine br_f (by assumption) ?_; conv => whnf) | (refine get_of (by assumption) ?_; conv => whnf) | (refine get_map (by assumption) ?_; conv => whnf) | (refine callc_eq (hc1) hC hasBody_42 rfl ?_ ?_ ?_; kernel_rfl; kernel_rfl; conv => whnf) | (refine callcq_eq (hc1) hC hasBody_42 rfl ?_ ?_ ?_; kernel_rfl; kernel_rfl; conv => whnf) | (refine callc_eq (hc2) hC hasBody_42 rfl ?_ ?_ ?_; kernel_rfl; kernel_rfl; conv => whnf) | (refine callcq_eq (hc2) hC hasBody_42 rfl ?_ ?_ ?_; kernel_rfl; kernel_rfl; conv => whnf) | (refine call_ws hC 0 1 (by decide) ?_ rfl rfl rfl ?_; omega; conv => whnf) | (refine call_str hC 0 1 (by decide) rfl rfl rfl ?_; conv => whnf) | (refine draw_lex hE ?_ ?_; decide +kernel; conv => whnf) | (refine brd (fun h => ?_) (fun h => ?_) <;> conv => whnf) | (refine br (fun h => ?_) (fun h => ?_) <;> conv => whnf) | (refine ret_now hE ?_; conv => whnf) | (intro hlen; conv => whnf) | (refine seg_here ?_; conv => whnf) | (refine both ?_ ?_ <;> conv => whnf))
      all_goals exact ⟨rfl, by rw [hI]⟩
    | true =>
      rw [if_neg (by decide)] at hst
      rw [hst, ← List.append_assoc] at hI
      conv => whnf
      repeat' (first | (refine brd_t (by first | assumption | omega) ?_; conv => whnf) | (refine brd_f (by first | assumption | omega) ?_; conv => whnf) | (refine ask (by first | assumption | omega) ?_; conv => whnf) | (refine fit64 (by omega) ?_; conv => whnf) | (refine fit (by simp only [kmin, kmax]; omega) ?_; conv => whnf) | (refine br_t (by assumption) ?_; conv => whnf) | (refine br_f (by assumption) ?_; conv => whnf) | (refine get_of (by assumption) ?_; conv => whnf) | (refine get_map (by assumption) ?_; conv => whnf) | (refine callc_eq (hc1) hC hasBody_42 rfl ?_ ?_ ?_; kernel_rfl; kernel_rfl; conv => whnf) | (refine callcq_eq (hc1) hC hasBody_42 rfl ?_ ?_ ?_; kernel_rfl; kernel_rfl; conv => whnf) | (refine callc_eq (hc2) hC hasBody_42 rfl ?_ ?_ ?_; kernel_rfl; kernel_rfl; conv => whnf) | (refine callcq_eq (hc2) hC hasBody_42 rfl ?_ ?_ ?_; kernel_rfl; kernel_rfl; conv => whnf) | (refine call_ws hC 0 1 (by decide) ?_ rfl rfl rfl ?_; omega; conv => whnf) | (refine draw_lex hE ?_ ?_; decide +kernel; conv => whnf) | (refine brd (fun h => ?_) (fun h => ?_) <;> conv => whnf) | (refine br (fun h => ?_) (fun h => ?_) <;> conv => whnf) | (refine ret_now hE ?_; conv => whnf) | (intro hlen; conv => whnf) | (refine seg_here ?_; conv => whnf) | (refine both ?_ ?_ <;> conv => whnf))
      refine next_keep [0, 3] (n, b2, o ++ a) ⟨?_, ?_, hI⟩ (Nat.lt_succ_self n) rfl
      · show b2.length < n; omega
      · show (o ++ a).length + b2.length ≤ s.length
        rw [List.length_append]; omega
end Go.Proofs.YtaeeceabnkgnnaaDoor
