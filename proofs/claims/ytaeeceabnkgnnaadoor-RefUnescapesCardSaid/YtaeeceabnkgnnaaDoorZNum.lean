/- strconv.toError by the kit's contract; strconv.ParseInt at base 10 and 16: short texts. No conditions. -/
import Derived.Test.YtaeeceabnkgnnaaDoorIfc
import Derived.Test.YtaeeceabnkgnnaaDoorZRune
import Derived.Test.YtaeeceabnkgnnaaDoorJoin
import Derived.Test.YtaeeceabnkgnnaaDoorIdx
import Derived.Shelf.Pu.ToError
/-! internal/strconv.ParseUint and ParseInt at base 10 and 16, walked: short texts. No conditions. -/
set_option linter.unusedSimpArgs false
set_option linter.unusedVariables false
set_option maxRecDepth 100000
namespace Go.Proofs.YtaeeceabnkgnnaaDoor
open Go.RowKit

theorem hasBody_128 : hasBody Tryd.prog 128 = true := by kernel_rfl
theorem hasBody_112 : hasBody Tryd.prog 112 = true := by kernel_rfl
theorem hasBody_100 : hasBody Tryd.prog 100 = true := by kernel_rfl
def lo (c : UInt8) : UInt8 := c ||| 32
theorem lo_all : ∀ j : Fin 256, bitOr .u8 (j.val : Int) 32 = ((lo (UInt8.ofNat j.val)).toNat : Int) := by decide +kernel
theorem lo_bit (c : UInt8) : bitOr .u8 (c.toNat : Int) 32 = ((lo c).toNat : Int) := by
  have := lo_all ⟨c.toNat, c.toNat_lt⟩
  simpa using this
theorem lower_walk (c : UInt8) : Fn1 Tryd.prog 128 [.int .u8 c.toNat] (fun r => r = .int .u8 (lo c).toNat) := by
  refine fn1E (T := Tryd.tt) Tryd.func128 rfl tt_all follows_all ?_ ?_ fun C hC hE => ?_
  · kernel_rfl
  · exact Nat.le_of_ble_eq_true (by kernel_rfl)
  conv => whnf
  repeat' (first | (refine brd_t (by first | assumption | omega) ?_; conv => whnf) | (refine brd_f (by first | assumption | omega) ?_; conv => whnf) | (refine ask (by first | assumption | omega) ?_; conv => whnf) | (refine fit64 (by omega) ?_; conv => whnf) | (refine fit (by simp only [kmin, kmax]; omega) ?_; conv => whnf) | (refine br_t (by assumption) ?_; conv => whnf) | (refine br_f (by assumption) ?_; conv => whnf) | (refine get_of (by assumption) ?_; conv => whnf) | (refine get_map (by assumption) ?_; conv => whnf) | (refine draw_lex hE ?_ ?_; decide +kernel; conv => whnf) | (refine brd (fun h => ?_) (fun h => ?_) <;> conv => whnf) | (refine br (fun h => ?_) (fun h => ?_) <;> conv => whnf) | (refine ret_now hE ?_; conv => whnf) | (intro hlen; conv => whnf) | (refine seg_here ?_; conv => whnf) | (refine both ?_ ?_ <;> conv => whnf))
  all_goals exact ⟨rfl, congrArg _ (lo_bit c)⟩
/-- A digit's worth. -/
def pD (c : UInt8) : Option Nat := if 48 ≤ c.toNat ∧ c.toNat ≤ 57 then some (c.toNat - 48) else if 97 ≤ (lo c).toNat ∧ (lo c).toNat ≤ 122 then some ((lo c).toNat - 87) else none
def pU (B : Nat) : Nat → List UInt8 → Option Nat
  | n, [] => some n
  | n, c :: r => match pD c with
    | some d => if d < B then pU B (n * B + d) r else none
    | none => none
def pV (k : IntKind) : Option Nat → V
  | some n => .tup [.int k n, .nili]
  | none => .tup [.int k 0, .ifi 151 .i64 2]
theorem pU_step {B n k : Nat} {s : List UInt8} {c : UInt8} (hx : s[k]? = some c) : pU B n (s.drop k) = match pD c with
    | some d => if d < B then pU B (n * B + d) (s.drop (k + 1)) else none
    | none => none := by
  obtain ⟨hlt, rfl⟩ := List.getElem?_eq_some_iff.1 hx
  rw [List.drop_eq_getElem_cons hlt, pU]

set_option maxHeartbeats 16000000 in
theorem parseUint_10 (s : List UInt8) (hs : s ≠ []) (hl : s.length ≤ 7) : Fn1 Tryd.prog 112 [.str s, .int .i64 10, .int .i64 64] (fun r => r = pV .u64 (pU 10 0 s)) := by
  have hns : ¬ s = [] := hs
  have hbm : (s.map byteV).length = s.length := by simp
  refine fn1E (T := Tryd.tt) Tryd.func112 rfl tt_all follows_all ?_ ?_ fun C hC hE => ?_
  · kernel_rfl
  · exact Nat.le_of_ble_eq_true (by kernel_rfl)
  conv => whnf
  repeat' (first | (refine brd_t (by first | assumption | omega) ?_; conv => whnf) | (refine brd_f (by first | assumption | omega) ?_; conv => whnf) | (refine ask (by first | assumption | omega) ?_; conv => whnf) | (refine fit64 (by omega) ?_; conv => whnf) | (refine fit (by simp only [kmin, kmax]; omega) ?_; conv => whnf) | (refine br_t (by assumption) ?_; conv => whnf) | (refine br_f (by assumption) ?_; conv => whnf) | (refine get_of (by assumption) ?_; conv => whnf) | (refine get_map (by assumption) ?_; conv => whnf) | (refine fit_not (.inr (by decide)) ?_; conv => whnf) | (refine fit_not (.inl (by decide)) ?_; conv => whnf) | (refine fit ⟨by decide, by decide⟩ ?_; conv => whnf) | (refine draw_lex hE ?_ ?_; decide +kernel; conv => whnf) | (refine brd (fun h => ?_) (fun h => ?_) <;> conv => whnf) | (refine br (fun h => ?_) (fun h => ?_) <;> conv => whnf) | (refine ret_now hE ?_; conv => whnf) | (intro hlen; conv => whnf) | (refine seg_here ?_; conv => whnf) | (refine both ?_ ?_ <;> conv => whnf))
  refine loopE (fun ((k, n) : Nat × Nat) => ⟨172, [(1, .int .i64 10), (8, .bool false), (10, .int .u64 1844674407370955162), (11, .int .u64 18446744073709551615), (12, .bool false), (13, .int .u64 n), (99, .sl 0 0 s.length), (100, .int .i64 s.length), (101, .int .i64 k)], [some (.row 1 (s.map byteV))]⟩)
    (fun (k, n) => k ≤ s.length ∧ n < 16 ^ k ∧ pU 10 n (s.drop k) = pU 10 0 s) (fun (k, _) => s.length - k) (0, 0) hE ?_ ?_ ⟨Nat.zero_le _, Nat.lt_succ_self _, rfl⟩ ?_
  · kernel_rfl
  · exact at_keep [1, 8, 10, 11, 12, 13, 99, 100, 101] rfl
  rintro ⟨k, n⟩ ⟨hk, hn, hI⟩
  have hn7 : n < 268435456 := Nat.lt_of_lt_of_le hn (Nat.pow_le_pow_right (n := 16) (by omega) (show k ≤ 7 by omega))
  by_cases hlt : k < s.length
  · obtain ⟨c, hx⟩ : ∃ c, s[k]? = some c := ⟨_, List.getElem?_eq_getElem hlt⟩
    have hst := pU_step (B := 10) (n := n) hx
    rw [hI] at hst
    have hx' : (s.map byteV)[k]? = some (.int .u8 c.toNat) := by rw [List.getElem?_map, hx]; rfl
    have hP : pU 10 0 s = if 48 ≤ c.toNat ∧ c.toNat ≤ 57 then (if c.toNat - 48 < 10 then pU 10 (n * 10 + (c.toNat - 48)) (s.drop (k + 1)) else none) else if 97 ≤ (lo c).toNat ∧ (lo c).toNat ≤ 122 then (if (lo c).toNat - 87 < 10 then pU 10 (n * 10 + ((lo c).toNat - 87)) (s.drop (k + 1)) else none) else none := by
      rw [hst]
      unfold pD
      by_cases h1 : 48 ≤ c.toNat ∧ c.toNat ≤ 57
      · rw [if_pos h1, if_pos h1]
      · rw [if_neg h1, if_neg h1]
        by_cases h2 : 97 ≤ (lo c).toNat ∧ (lo c).toNat ≤ 122
        · rw [if_pos h2, if_pos h2]
        · rw [if_neg h2, if_neg h2]
    clear hst
    have hpw : 16 ^ (k + 1) = 16 ^ k * 16 := Nat.pow_succ 16 k
    have hcb := c.toNat_lt
    have hlb := (lo c).toNat_lt
    have hlw := lower_walk c
    conv => whnf
    repeat' (first | (refine brd_t (by first | assumption | omega) ?_; conv => whnf) | (refine brd_f (by first | assumption | omega) ?_; conv => whnf) | (refine ask (by first | assumption | omega) ?_; conv => whnf) | (refine fit64 (by omega) ?_; conv => whnf) | (refine fit (by simp only [kmin, kmax]; omega) ?_; conv => whnf) | (refine br_t (by assumption) ?_; conv => whnf) | (refine br_f (by assumption) ?_; conv => whnf) | (refine get_of (by assumption) ?_; conv => whnf) | (refine get_map (by assumption) ?_; conv => whnf) | (rw [show 0 + ((k : Nat) : Int).toNat = k by omega, hx']; conv => whnf) | (refine call_eq (hlw) hC hasBody_128 ?_ ?_ ?_; kernel_rfl; kernel_rfl; conv => whnf) | (refine callq_eq (hlw) hC hasBody_128 ?_ ?_ ?_; kernel_rfl; kernel_rfl; conv => whnf) | (refine mk_ifi (by rw [hC]; kernel_rfl) rfl ?_; conv => whnf) | (refine draw_lex hE ?_ ?_; decide +kernel; conv => whnf) | (refine brd (fun h => ?_) (fun h => ?_) <;> conv => whnf) | (refine br (fun h => ?_) (fun h => ?_) <;> conv => whnf) | (refine ret_now hE ?_; conv => whnf) | (intro hlen; conv => whnf) | (refine seg_here ?_; conv => whnf) | (refine both ?_ ?_ <;> conv => whnf))
    all_goals first
      | (refine ⟨rfl, ?_⟩
         have : pU 10 0 s = none := by
           rw [hP]
           (repeat' split) <;> first | rfl | (exfalso; omega)
         rw [this]
         rfl)
      | (have e : ((n * 10 + (c.toNat - 48) : Nat) : Int) = (n : Int) * 10 + ((c.toNat : Int) - 48) := by omega
         refine next_keep [1, 8, 10, 11, 12, 13, 99, 100, 101] (k + 1, n * 10 + (c.toNat - 48)) ⟨hlt, by rw [hpw]; omega, ?_⟩ (show s.length - (k + 1) < s.length - k by omega) ?_
         · rw [hP, if_pos (by omega), if_pos (by omega)]
         · conv => whnf
           rw [← e]
           rfl)
      | (have e : ((n * 10 + ((lo c).toNat - 87) : Nat) : Int) = (n : Int) * 10 + ((lo c).toNat - 97 + 10 : Int) := by omega
         refine next_keep [1, 8, 10, 11, 12, 13, 99, 100, 101] (k + 1, n * 10 + ((lo c).toNat - 87)) ⟨hlt, by rw [hpw]; omega, ?_⟩ (show s.length - (k + 1) < s.length - k by omega) ?_
         · rw [hP, if_neg (by omega), if_pos (by omega), if_pos (by omega)]
         · conv => whnf
           rw [← e]
           rfl)
  · have hkn : k = s.length := by omega
    subst hkn
    rw [List.drop_length, pU] at hI
    conv => whnf
    repeat' (first | (refine brd_t (by first | assumption | omega) ?_; conv => whnf) | (refine brd_f (by first | assumption | omega) ?_; conv => whnf) | (refine ask (by first | assumption | omega) ?_; conv => whnf) | (refine fit64 (by omega) ?_; conv => whnf) | (refine fit (by simp only [kmin, kmax]; omega) ?_; conv => whnf) | (refine br_t (by assumption) ?_; conv => whnf) | (refine br_f (by assumption) ?_; conv => whnf) | (refine get_of (by assumption) ?_; conv => whnf) | (refine get_map (by assumption) ?_; conv => whnf) | (refine draw_lex hE ?_ ?_; decide +kernel; conv => whnf) | (refine brd (fun h => ?_) (fun h => ?_) <;> conv => whnf) | (refine br (fun h => ?_) (fun h => ?_) <;> conv => whnf) | (refine ret_now hE ?_; conv => whnf) | (intro hlen; conv => whnf) | (refine seg_here ?_; conv => whnf) | (refine both ?_ ?_ <;> conv => whnf))
    all_goals exact ⟨rfl, by rw [← hI]; rfl⟩

set_option maxHeartbeats 16000000 in
theorem parseUint_16 (s : List UInt8) (hs : s ≠ []) (hl : s.length ≤ 7) : Fn1 Tryd.prog 112 [.str s, .int .i64 16, .int .i64 64] (fun r => r = pV .u64 (pU 16 0 s)) := by
  have hns : ¬ s = [] := hs
  have hbm : (s.map byteV).length = s.length := by simp
  refine fn1E (T := Tryd.tt) Tryd.func112 rfl tt_all follows_all ?_ ?_ fun C hC hE => ?_
  · kernel_rfl
  · exact Nat.le_of_ble_eq_true (by kernel_rfl)
  conv => whnf
  repeat' (first | (refine brd_t (by first | assumption | omega) ?_; conv => whnf) | (refine brd_f (by first | assumption | omega) ?_; conv => whnf) | (refine ask (by first | assumption | omega) ?_; conv => whnf) | (refine fit64 (by omega) ?_; conv => whnf) | (refine fit (by simp only [kmin, kmax]; omega) ?_; conv => whnf) | (refine br_t (by assumption) ?_; conv => whnf) | (refine br_f (by assumption) ?_; conv => whnf) | (refine get_of (by assumption) ?_; conv => whnf) | (refine get_map (by assumption) ?_; conv => whnf) | (refine fit_not (.inr (by decide)) ?_; conv => whnf) | (refine fit_not (.inl (by decide)) ?_; conv => whnf) | (refine fit ⟨by decide, by decide⟩ ?_; conv => whnf) | (refine draw_lex hE ?_ ?_; decide +kernel; conv => whnf) | (refine brd (fun h => ?_) (fun h => ?_) <;> conv => whnf) | (refine br (fun h => ?_) (fun h => ?_) <;> conv => whnf) | (refine ret_now hE ?_; conv => whnf) | (intro hlen; conv => whnf) | (refine seg_here ?_; conv => whnf) | (refine both ?_ ?_ <;> conv => whnf))
  refine loopE (fun ((k, n) : Nat × Nat) => ⟨172, [(1, .int .i64 16), (8, .bool false), (10, .int .u64 1152921504606846976), (11, .int .u64 18446744073709551615), (12, .bool false), (13, .int .u64 n), (99, .sl 0 0 s.length), (100, .int .i64 s.length), (101, .int .i64 k)], [some (.row 1 (s.map byteV))]⟩)
    (fun (k, n) => k ≤ s.length ∧ n < 16 ^ k ∧ pU 16 n (s.drop k) = pU 16 0 s) (fun (k, _) => s.length - k) (0, 0) hE ?_ ?_ ⟨Nat.zero_le _, Nat.lt_succ_self _, rfl⟩ ?_
  · kernel_rfl
  · exact at_keep [1, 8, 10, 11, 12, 13, 99, 100, 101] rfl
  rintro ⟨k, n⟩ ⟨hk, hn, hI⟩
  have hn7 : n < 268435456 := Nat.lt_of_lt_of_le hn (Nat.pow_le_pow_right (n := 16) (by omega) (show k ≤ 7 by omega))
  by_cases hlt : k < s.length
  · obtain ⟨c, hx⟩ : ∃ c, s[k]? = some c := ⟨_, List.getElem?_eq_getElem hlt⟩
    have hst := pU_step (B := 16) (n := n) hx
    rw [hI] at hst
    have hx' : (s.map byteV)[k]? = some (.int .u8 c.toNat) := by rw [List.getElem?_map, hx]; rfl
    have hP : pU 16 0 s = if 48 ≤ c.toNat ∧ c.toNat ≤ 57 then (if c.toNat - 48 < 16 then pU 16 (n * 16 + (c.toNat - 48)) (s.drop (k + 1)) else none) else if 97 ≤ (lo c).toNat ∧ (lo c).toNat ≤ 122 then (if (lo c).toNat - 87 < 16 then pU 16 (n * 16 + ((lo c).toNat - 87)) (s.drop (k + 1)) else none) else none := by
      rw [hst]
      unfold pD
      by_cases h1 : 48 ≤ c.toNat ∧ c.toNat ≤ 57
      · rw [if_pos h1, if_pos h1]
      · rw [if_neg h1, if_neg h1]
        by_cases h2 : 97 ≤ (lo c).toNat ∧ (lo c).toNat ≤ 122
        · rw [if_pos h2, if_pos h2]
        · rw [if_neg h2, if_neg h2]
    clear hst
    have hpw : 16 ^ (k + 1) = 16 ^ k * 16 := Nat.pow_succ 16 k
    have hcb := c.toNat_lt
    have hlb := (lo c).toNat_lt
    have hlw := lower_walk c
    conv => whnf
    repeat' (first | (refine brd_t (by first | assumption | omega) ?_; conv => whnf) | (refine brd_f (by first | assumption | omega) ?_; conv => whnf) | (refine ask (by first | assumption | omega) ?_; conv => whnf) | (refine fit64 (by omega) ?_; conv => whnf) | (refine fit (by simp only [kmin, kmax]; omega) ?_; conv => whnf) | (refine br_t (by assumption) ?_; conv => whnf) | (refine br_f (by assumption) ?_; conv => whnf) | (refine get_of (by assumption) ?_; conv => whnf) | (refine get_map (by assumption) ?_; conv => whnf) | (rw [show 0 + ((k : Nat) : Int).toNat = k by omega, hx']; conv => whnf) | (refine call_eq (hlw) hC hasBody_128 ?_ ?_ ?_; kernel_rfl; kernel_rfl; conv => whnf) | (refine callq_eq (hlw) hC hasBody_128 ?_ ?_ ?_; kernel_rfl; kernel_rfl; conv => whnf) | (refine mk_ifi (by rw [hC]; kernel_rfl) rfl ?_; conv => whnf) | (refine draw_lex hE ?_ ?_; decide +kernel; conv => whnf) | (refine brd (fun h => ?_) (fun h => ?_) <;> conv => whnf) | (refine br (fun h => ?_) (fun h => ?_) <;> conv => whnf) | (refine ret_now hE ?_; conv => whnf) | (intro hlen; conv => whnf) | (refine seg_here ?_; conv => whnf) | (refine both ?_ ?_ <;> conv => whnf))
    all_goals first
      | (refine ⟨rfl, ?_⟩
         have : pU 16 0 s = none := by
           rw [hP]
           (repeat' split) <;> first | rfl | (exfalso; omega)
         rw [this]
         rfl)
      | (have e : ((n * 16 + (c.toNat - 48) : Nat) : Int) = (n : Int) * 16 + ((c.toNat : Int) - 48) := by omega
         refine next_keep [1, 8, 10, 11, 12, 13, 99, 100, 101] (k + 1, n * 16 + (c.toNat - 48)) ⟨hlt, by rw [hpw]; omega, ?_⟩ (show s.length - (k + 1) < s.length - k by omega) ?_
         · rw [hP, if_pos (by omega), if_pos (by omega)]
         · conv => whnf
           rw [← e]
           rfl)
      | (have e : ((n * 16 + ((lo c).toNat - 87) : Nat) : Int) = (n : Int) * 16 + ((lo c).toNat - 97 + 10 : Int) := by omega
         refine next_keep [1, 8, 10, 11, 12, 13, 99, 100, 101] (k + 1, n * 16 + ((lo c).toNat - 87)) ⟨hlt, by rw [hpw]; omega, ?_⟩ (show s.length - (k + 1) < s.length - k by omega) ?_
         · rw [hP, if_neg (by omega), if_pos (by omega), if_pos (by omega)]
         · conv => whnf
           rw [← e]
           rfl)
  · have hkn : k = s.length := by omega
    subst hkn
    rw [List.drop_length, pU] at hI
    conv => whnf
    repeat' (first | (refine brd_t (by first | assumption | omega) ?_; conv => whnf) | (refine brd_f (by first | assumption | omega) ?_; conv => whnf) | (refine ask (by first | assumption | omega) ?_; conv => whnf) | (refine fit64 (by omega) ?_; conv => whnf) | (refine fit (by simp only [kmin, kmax]; omega) ?_; conv => whnf) | (refine br_t (by assumption) ?_; conv => whnf) | (refine br_f (by assumption) ?_; conv => whnf) | (refine get_of (by assumption) ?_; conv => whnf) | (refine get_map (by assumption) ?_; conv => whnf) | (refine draw_lex hE ?_ ?_; decide +kernel; conv => whnf) | (refine brd (fun h => ?_) (fun h => ?_) <;> conv => whnf) | (refine br (fun h => ?_) (fun h => ?_) <;> conv => whnf) | (refine ret_now hE ?_; conv => whnf) | (intro hlen; conv => whnf) | (refine seg_here ?_; conv => whnf) | (refine both ?_ ?_ <;> conv => whnf))
    all_goals exact ⟨rfl, by rw [← hI]; rfl⟩
end Go.Proofs.YtaeeceabnkgnnaaDoor

/-! strconv.ParseInt at base 10 and 16, walked: short texts. No conditions. -/
namespace Go.Proofs.YtaeeceabnkgnnaaDoor
open Go.RowKit Go.Shelf

theorem pU_lt (B : Nat) (hB : B ≤ 16) : ∀ (s : List UInt8) (n m k : Nat), n < 16 ^ k → pU B n s = some m → m < 16 ^ (k + s.length)
  | [], n, m, k, hn, h => by rw [pU] at h; cases h; exact hn
  | c :: r, n, m, k, hn, h => by
    rw [pU] at h
    split at h
    · rename_i d hd
      split at h
      · rename_i hlt
        have hp : 16 ^ (k + 1) = 16 ^ k * 16 := Nat.pow_succ 16 k
        have : n * B ≤ n * 16 := Nat.mul_le_mul_left n hB
        have := pU_lt B hB r (n * B + d) m (k + 1) (by omega) h
        rw [List.length_cons, show k + (r.length + 1) = k + 1 + r.length by omega]
        exact this
      · cases h
    · cases h
theorem pU_small {B : Nat} (hB : B ≤ 16) {s : List UInt8} {m : Nat} (hl : s.length ≤ 7) (h : pU B 0 s = some m) : m < 268435456 :=
  Nat.lt_of_lt_of_le (pU_lt B hB s 0 m 0 (Nat.lt_succ_self _) h) (Nat.pow_le_pow_right (n := 16) (by omega) (show 0 + s.length ≤ 7 by omega))

set_option maxHeartbeats 16000000 in
theorem parseInt_10 (c : UInt8) (s : List UInt8) (h1 : c ≠ 43) (h2 : c ≠ 45) (hl : s.length ≤ 6) : Fn1 Tryd.prog 100 [.str (c :: s), .int .i64 10, .int .i64 64] (fun r => r = pV .i64 (pU 10 0 (c :: s))) := by
  have hu := parseUint_10 (c :: s) (by simp) (by simp; omega)
  have hsm : ∀ m, pU 10 0 (c :: s) = some m → m < 268435456 := fun m h => pU_small (by omega) (by simp; omega) h
  have hne : ¬ (c :: s) = [] := by simp
  have hc1 : ¬ ((c.toNat : Int) = 43) := fun e => h1 (UInt8.toNat_inj.1 (by have : (43 : UInt8).toNat = 43 := rfl; omega))
  have hc2 : ¬ ((c.toNat : Int) = 45) := fun e => h2 (UInt8.toNat_inj.1 (by have : (45 : UInt8).toNat = 45 := rfl; omega))
  have hn0 : Int.toNat 0 < (c :: s).length := by simp
  generalize pU 10 0 (c :: s) = o at *
  cases o with
  | none =>
    have hu : Fn1 Tryd.prog 112 [.str (c :: s), .int .i64 10, .int .i64 64] (fun r => r = .tup [.int .u64 0, .ifi 151 .i64 2]) := hu
    refine fn1E (T := Tryd.tt) Tryd.func100 rfl tt_all follows_all ?_ ?_ fun C hC hE => ?_
    · kernel_rfl
    · exact Nat.le_of_ble_eq_true (by kernel_rfl)
    conv => whnf
    repeat' (first | (refine brd_t (by first | assumption | omega) ?_; conv => whnf) | (refine brd_f (by first | assumption | omega) ?_; conv => whnf) | (refine ask (by first | assumption | omega) ?_; conv => whnf) | (refine fit64 (by omega) ?_; conv => whnf) | (refine fit (by simp only [kmin, kmax]; omega) ?_; conv => whnf) | (refine br_t (by assumption) ?_; conv => whnf) | (refine br_f (by assumption) ?_; conv => whnf) | (refine get_of (by assumption) ?_; conv => whnf) | (refine get_map (by assumption) ?_; conv => whnf) | (refine cmp_ne 151 (by rw [hC]; kernel_rfl) (by rw [hC]; kernel_rfl) ?_; conv => whnf) | (refine brd_f (show ¬ (1 * 2 ^ min (64 - 1 : Int).toNat IntKind.u64.bits ≤ ((m : Nat) : Int)) by rw [show (1 * 2 ^ min (64 - 1 : Int).toNat IntKind.u64.bits : Int) = 9223372036854775808 by decide]; omega) ?_; conv => whnf) | (refine mk_ifi (by rw [hC]; kernel_rfl) rfl ?_; conv => whnf) | (refine fit ⟨by decide, by decide⟩ ?_; conv => whnf) | (refine call_eq (hu) hC hasBody_112 ?_ ?_ ?_; kernel_rfl; kernel_rfl; conv => whnf) | (refine callq_eq (hu) hC hasBody_112 ?_ ?_ ?_; kernel_rfl; kernel_rfl; conv => whnf) | (refine draw_lex hE ?_ ?_; decide +kernel; conv => whnf) | (refine brd (fun h => ?_) (fun h => ?_) <;> conv => whnf) | (refine br (fun h => ?_) (fun h => ?_) <;> conv => whnf) | (refine ret_now hE ?_; conv => whnf) | (intro hlen; conv => whnf) | (refine seg_here ?_; conv => whnf) | (refine both ?_ ?_ <;> conv => whnf))
    all_goals exact ⟨rfl, rfl⟩
  | some m =>
    have hu : Fn1 Tryd.prog 112 [.str (c :: s), .int .i64 10, .int .i64 64] (fun r => r = .tup [.int .u64 (m : Nat), .nili]) := hu
    have hm := hsm m rfl
    clear hsm
    refine fn1E (T := Tryd.tt) Tryd.func100 rfl tt_all follows_all ?_ ?_ fun C hC hE => ?_
    · kernel_rfl
    · exact Nat.le_of_ble_eq_true (by kernel_rfl)
    conv => whnf
    repeat' (first | (refine brd_t (by first | assumption | omega) ?_; conv => whnf) | (refine brd_f (by first | assumption | omega) ?_; conv => whnf) | (refine ask (by first | assumption | omega) ?_; conv => whnf) | (refine fit64 (by omega) ?_; conv => whnf) | (refine fit (by simp only [kmin, kmax]; omega) ?_; conv => whnf) | (refine br_t (by assumption) ?_; conv => whnf) | (refine br_f (by assumption) ?_; conv => whnf) | (refine get_of (by assumption) ?_; conv => whnf) | (refine get_map (by assumption) ?_; conv => whnf) | (refine cmp_ne 151 (by rw [hC]; kernel_rfl) (by rw [hC]; kernel_rfl) ?_; conv => whnf) | (refine brd_f (show ¬ (1 * 2 ^ min (64 - 1 : Int).toNat IntKind.u64.bits ≤ ((m : Nat) : Int)) by rw [show (1 * 2 ^ min (64 - 1 : Int).toNat IntKind.u64.bits : Int) = 9223372036854775808 by decide]; omega) ?_; conv => whnf) | (refine mk_ifi (by rw [hC]; kernel_rfl) rfl ?_; conv => whnf) | (refine fit ⟨by decide, by decide⟩ ?_; conv => whnf) | (refine call_eq (hu) hC hasBody_112 ?_ ?_ ?_; kernel_rfl; kernel_rfl; conv => whnf) | (refine callq_eq (hu) hC hasBody_112 ?_ ?_ ?_; kernel_rfl; kernel_rfl; conv => whnf) | (refine draw_lex hE ?_ ?_; decide +kernel; conv => whnf) | (refine brd (fun h => ?_) (fun h => ?_) <;> conv => whnf) | (refine br (fun h => ?_) (fun h => ?_) <;> conv => whnf) | (refine ret_now hE ?_; conv => whnf) | (intro hlen; conv => whnf) | (refine seg_here ?_; conv => whnf) | (refine both ?_ ?_ <;> conv => whnf))
    all_goals exact ⟨rfl, rfl⟩

set_option maxHeartbeats 16000000 in
theorem parseInt_16 (c : UInt8) (s : List UInt8) (h1 : c ≠ 43) (h2 : c ≠ 45) (hl : s.length ≤ 6) : Fn1 Tryd.prog 100 [.str (c :: s), .int .i64 16, .int .i64 64] (fun r => r = pV .i64 (pU 16 0 (c :: s))) := by
  have hu := parseUint_16 (c :: s) (by simp) (by simp; omega)
  have hsm : ∀ m, pU 16 0 (c :: s) = some m → m < 268435456 := fun m h => pU_small (by omega) (by simp; omega) h
  have hne : ¬ (c :: s) = [] := by simp
  have hc1 : ¬ ((c.toNat : Int) = 43) := fun e => h1 (UInt8.toNat_inj.1 (by have : (43 : UInt8).toNat = 43 := rfl; omega))
  have hc2 : ¬ ((c.toNat : Int) = 45) := fun e => h2 (UInt8.toNat_inj.1 (by have : (45 : UInt8).toNat = 45 := rfl; omega))
  have hn0 : Int.toNat 0 < (c :: s).length := by simp
  generalize pU 16 0 (c :: s) = o at *
  cases o with
  | none =>
    have hu : Fn1 Tryd.prog 112 [.str (c :: s), .int .i64 16, .int .i64 64] (fun r => r = .tup [.int .u64 0, .ifi 151 .i64 2]) := hu
    refine fn1E (T := Tryd.tt) Tryd.func100 rfl tt_all follows_all ?_ ?_ fun C hC hE => ?_
    · kernel_rfl
    · exact Nat.le_of_ble_eq_true (by kernel_rfl)
    conv => whnf
    repeat' (first | (refine brd_t (by first | assumption | omega) ?_; conv => whnf) | (refine brd_f (by first | assumption | omega) ?_; conv => whnf) | (refine ask (by first | assumption | omega) ?_; conv => whnf) | (refine fit64 (by omega) ?_; conv => whnf) | (refine fit (by simp only [kmin, kmax]; omega) ?_; conv => whnf) | (refine br_t (by assumption) ?_; conv => whnf) | (refine br_f (by assumption) ?_; conv => whnf) | (refine get_of (by assumption) ?_; conv => whnf) | (refine get_map (by assumption) ?_; conv => whnf) | (refine cmp_ne 151 (by rw [hC]; kernel_rfl) (by rw [hC]; kernel_rfl) ?_; conv => whnf) | (refine brd_f (show ¬ (1 * 2 ^ min (64 - 1 : Int).toNat IntKind.u64.bits ≤ ((m : Nat) : Int)) by rw [show (1 * 2 ^ min (64 - 1 : Int).toNat IntKind.u64.bits : Int) = 9223372036854775808 by decide]; omega) ?_; conv => whnf) | (refine mk_ifi (by rw [hC]; kernel_rfl) rfl ?_; conv => whnf) | (refine fit ⟨by decide, by decide⟩ ?_; conv => whnf) | (refine call_eq (hu) hC hasBody_112 ?_ ?_ ?_; kernel_rfl; kernel_rfl; conv => whnf) | (refine callq_eq (hu) hC hasBody_112 ?_ ?_ ?_; kernel_rfl; kernel_rfl; conv => whnf) | (refine draw_lex hE ?_ ?_; decide +kernel; conv => whnf) | (refine brd (fun h => ?_) (fun h => ?_) <;> conv => whnf) | (refine br (fun h => ?_) (fun h => ?_) <;> conv => whnf) | (refine ret_now hE ?_; conv => whnf) | (intro hlen; conv => whnf) | (refine seg_here ?_; conv => whnf) | (refine both ?_ ?_ <;> conv => whnf))
    all_goals exact ⟨rfl, rfl⟩
  | some m =>
    have hu : Fn1 Tryd.prog 112 [.str (c :: s), .int .i64 16, .int .i64 64] (fun r => r = .tup [.int .u64 (m : Nat), .nili]) := hu
    have hm := hsm m rfl
    clear hsm
    refine fn1E (T := Tryd.tt) Tryd.func100 rfl tt_all follows_all ?_ ?_ fun C hC hE => ?_
    · kernel_rfl
    · exact Nat.le_of_ble_eq_true (by kernel_rfl)
    conv => whnf
    repeat' (first | (refine brd_t (by first | assumption | omega) ?_; conv => whnf) | (refine brd_f (by first | assumption | omega) ?_; conv => whnf) | (refine ask (by first | assumption | omega) ?_; conv => whnf) | (refine fit64 (by omega) ?_; conv => whnf) | (refine fit (by simp only [kmin, kmax]; omega) ?_; conv => whnf) | (refine br_t (by assumption) ?_; conv => whnf) | (refine br_f (by assumption) ?_; conv => whnf) | (refine get_of (by assumption) ?_; conv => whnf) | (refine get_map (by assumption) ?_; conv => whnf) | (refine cmp_ne 151 (by rw [hC]; kernel_rfl) (by rw [hC]; kernel_rfl) ?_; conv => whnf) | (refine brd_f (show ¬ (1 * 2 ^ min (64 - 1 : Int).toNat IntKind.u64.bits ≤ ((m : Nat) : Int)) by rw [show (1 * 2 ^ min (64 - 1 : Int).toNat IntKind.u64.bits : Int) = 9223372036854775808 by decide]; omega) ?_; conv => whnf) | (refine mk_ifi (by rw [hC]; kernel_rfl) rfl ?_; conv => whnf) | (refine fit ⟨by decide, by decide⟩ ?_; conv => whnf) | (refine call_eq (hu) hC hasBody_112 ?_ ?_ ?_; kernel_rfl; kernel_rfl; conv => whnf) | (refine callq_eq (hu) hC hasBody_112 ?_ ?_ ?_; kernel_rfl; kernel_rfl; conv => whnf) | (refine draw_lex hE ?_ ?_; decide +kernel; conv => whnf) | (refine brd (fun h => ?_) (fun h => ?_) <;> conv => whnf) | (refine br (fun h => ?_) (fun h => ?_) <;> conv => whnf) | (refine ret_now hE ?_; conv => whnf) | (intro hlen; conv => whnf) | (refine seg_here ?_; conv => whnf) | (refine both ?_ ?_ <;> conv => whnf))
    all_goals exact ⟨rfl, rfl⟩
end Go.Proofs.YtaeeceabnkgnnaaDoor

/-! strconv.toError by the kit's contract; strconv.ParseInt at base 10 and 16: short texts. No conditions. -/
namespace Go.Proofs.YtaeeceabnkgnnaaDoor
open Go.RowKit Go.Shelf

def renTE : Ren := {
  f := fun x => match x with | 17 => 101 | 21 => 113 | 22 => 114 | 23 => 115 | 24 => 116 | 25 => 130 | 27 => 132 | 26 => 131 | 28 => 140 | 29 => 141 | 30 => 142 | 31 => 143 | 32 => 144 | 33 => 145 | 35 => 147 | 34 => 146 | 36 => 148 | 37 => 149 | 38 => 150 | 39 => 151 | 40 => 152 | n => n
  t := fun x => match x with | 9 => 9 | 3 => 3 | 24 => 52 | 34 => 151 | 4 => 4 | 39 => 155 | 44 => 171 | 37 => 45 | 0 => 0 | 47 => 96 | 50 => 178 | 48 => 176 | 2 => 2 | 52 => 180 | 22 => 152 | 5 => 5 | 55 => 183 | 59 => 186 | 60 => 78 | 20 => 20 | 61 => 187 | 36 => 132 | 65 => 190 | 66 => 191 | 67 => 56 | n => n
  g := fun x => match x with | 0 => 3 | 1 => 4 | 2 => 5 | 3 => 6 | 4 => 7 | n => n }
theorem laysTE : LaysPu.n17 Tryd.prog renTE := {
  mixed := by kernel_rfl
  f17 := Tryd.func101.trans (congrArg some (by kernel_rfl))
  f21 := Tryd.func113.trans (congrArg some (by kernel_rfl))
  f22 := Tryd.func114.trans (congrArg some (by kernel_rfl))
  f23 := Tryd.func115.trans (congrArg some (by kernel_rfl))
  f24 := Tryd.func116.trans (congrArg some (by kernel_rfl))
  f25 := Tryd.func130.trans (congrArg some (by kernel_rfl))
  f26 := Tryd.func131.trans (congrArg some (by kernel_rfl))
  f27 := Tryd.func132.trans (congrArg some (by kernel_rfl))
  f28 := Tryd.func140.trans (congrArg some (by kernel_rfl))
  f29 := Tryd.func141.trans (congrArg some (by kernel_rfl))
  f30 := Tryd.func142.trans (congrArg some (by kernel_rfl))
  f31 := Tryd.func143.trans (congrArg some (by kernel_rfl))
  f32 := Tryd.func144.trans (congrArg some (by kernel_rfl))
  f33 := Tryd.func145.trans (congrArg some (by kernel_rfl))
  f34 := Tryd.func146.trans (congrArg some (by kernel_rfl))
  f35 := Tryd.func147.trans (congrArg some (by kernel_rfl))
  f36 := Tryd.func148.trans (congrArg some (by kernel_rfl))
  f37 := Tryd.func149.trans (congrArg some (by kernel_rfl))
  f38 := Tryd.func150.trans (congrArg some (by kernel_rfl))
  f39 := Tryd.func151.trans (congrArg some (by kernel_rfl))
  f40 := Tryd.func152.trans (congrArg some (by kernel_rfl))
  t0 := Tryd.underlying0
  a0 := Tryd.isAgg0
  z0 := Tryd.sizeOf0
  v0 := Tryd.zeroValue0
  i0 := by kernel_rfl
  t2 := Tryd.underlying2
  a2 := Tryd.isAgg2
  z2 := Tryd.sizeOf2
  v2 := Tryd.zeroValue2
  i2 := by kernel_rfl
  t3 := Tryd.underlying3
  a3 := Tryd.isAgg3
  z3 := Tryd.sizeOf3
  v3 := Tryd.zeroValue3
  i3 := by kernel_rfl
  t4 := Tryd.underlying4
  a4 := Tryd.isAgg4
  z4 := Tryd.sizeOf4
  v4 := Tryd.zeroValue4
  i4 := by kernel_rfl
  t5 := Tryd.underlying5
  a5 := Tryd.isAgg5
  z5 := Tryd.sizeOf5
  v5 := Tryd.zeroValue5
  i5 := by kernel_rfl
  t9 := Tryd.underlying9
  a9 := Tryd.isAgg9
  z9 := Tryd.sizeOf9
  v9 := Tryd.zeroValue9
  i9 := by kernel_rfl
  t20 := Tryd.underlying20
  a20 := Tryd.isAgg20
  z20 := Tryd.sizeOf20
  v20 := Tryd.zeroValue20
  i20 := by kernel_rfl
  t22 := Tryd.underlying152
  a22 := Tryd.isAgg152
  z22 := Tryd.sizeOf152
  v22 := Tryd.zeroValue152
  i22 := by kernel_rfl
  t24 := Tryd.underlying52
  a24 := Tryd.isAgg52
  z24 := Tryd.sizeOf52
  v24 := Tryd.zeroValue52
  i24 := by kernel_rfl
  t34 := Tryd.underlying151
  a34 := Tryd.isAgg151
  z34 := Tryd.sizeOf151
  v34 := Tryd.zeroValue151
  i34 := by kernel_rfl
  c34 := by kernel_rfl
  t36 := Tryd.underlying132
  a36 := Tryd.isAgg132
  z36 := Tryd.sizeOf132
  v36 := Tryd.zeroValue132
  i36 := by kernel_rfl
  t37 := Tryd.underlying45
  a37 := Tryd.isAgg45
  z37 := Tryd.sizeOf45
  v37 := Tryd.zeroValue45
  i37 := by kernel_rfl
  t39 := Tryd.underlying155
  a39 := Tryd.isAgg155
  z39 := Tryd.sizeOf155
  v39 := Tryd.zeroValue155
  i39 := by kernel_rfl
  t44 := Tryd.underlying171
  a44 := Tryd.isAgg171
  z44 := Tryd.sizeOf171
  v44 := Tryd.zeroValue171
  i44 := by kernel_rfl
  t47 := Tryd.underlying96
  a47 := Tryd.isAgg96
  z47 := Tryd.sizeOf96
  v47 := Tryd.zeroValue96
  i47 := by kernel_rfl
  t48 := Tryd.underlying176
  a48 := Tryd.isAgg176
  z48 := Tryd.sizeOf176
  v48 := Tryd.zeroValue176
  i48 := by kernel_rfl
  t50 := Tryd.underlying178
  a50 := Tryd.isAgg178
  z50 := Tryd.sizeOf178
  v50 := Tryd.zeroValue178
  i50 := by kernel_rfl
  t52 := Tryd.underlying180
  a52 := Tryd.isAgg180
  z52 := Tryd.sizeOf180
  v52 := Tryd.zeroValue180
  i52 := by kernel_rfl
  t55 := Tryd.underlying183
  a55 := Tryd.isAgg183
  z55 := Tryd.sizeOf183
  v55 := Tryd.zeroValue183
  i55 := by kernel_rfl
  t59 := Tryd.underlying186
  a59 := Tryd.isAgg186
  z59 := Tryd.sizeOf186
  v59 := Tryd.zeroValue186
  i59 := by kernel_rfl
  t60 := Tryd.underlying78
  a60 := Tryd.isAgg78
  z60 := Tryd.sizeOf78
  v60 := Tryd.zeroValue78
  i60 := by kernel_rfl
  t61 := Tryd.underlying187
  a61 := Tryd.isAgg187
  z61 := Tryd.sizeOf187
  t65 := Tryd.underlying190
  a65 := Tryd.isAgg190
  z65 := Tryd.sizeOf190
  v65 := Tryd.zeroValue190
  i65 := by kernel_rfl
  t66 := Tryd.underlying191
  a66 := Tryd.isAgg191
  z66 := Tryd.sizeOf191
  v66 := Tryd.zeroValue191
  i66 := by kernel_rfl
  t67 := Tryd.underlying56
  a67 := Tryd.isAgg56
  z67 := Tryd.sizeOf56
  v67 := Tryd.zeroValue56
  i67 := by kernel_rfl
  g0 := by kernel_rfl
  m0 := by kernel_rfl
  g1 := by kernel_rfl
  m1 := by kernel_rfl
  g2 := by kernel_rfl
  m2 := by kernel_rfl
  g3 := by kernel_rfl
  m3 := by kernel_rfl
  g4 := by kernel_rfl
  m4 := by kernel_rfl }
/-- strconv.ErrSyntax holds some error. -/
def GE (w : World) : Prop := ∃ ev, w.cell? ⟨renTE.g 0, 0, none⟩ = some ev ∧ (ev = .nilIface ∨ ∃ te pe, ev = .iface te pe)
theorem kept_ge : KeptG GE := fun w w' hk ⟨m, h, hm⟩ => by
  refine ⟨m, ?_, hm⟩
  rcases Nat.lt_or_ge (renTE.g 0) w.heap.size with hlt | hlt
  · rw [World.cell?_of_block (w := w) (w' := w') (a := ⟨renTE.g 0, 0, none⟩) (hk.block (renTE.g 0) hlt (fun h => h))]
    exact h
  · exfalso
    simp only [World.cell?, Array.getElem?_eq_none hlt] at h
    cases h
theorem pr_ifi_inv {w : World} {I : Nat → Prop} {v : Value} {t : TypeId} {k : IntKind} {n : Int} (h : Pr w I v (.ifi t k n)) : v = .iface t (.int k n) := by
  generalize hx : V.ifi t k n = x at h
  cases h with
  | ifi t' k' n' => cases hx; rfl
  | _ => cases hx
theorem to_error (fn s : List UInt8) (B b : Int) (hlen : s.length ≤ 7) : Fn1G Tryd.prog GE 101 [.str fn, .str s, .int .i64 B, .int .i64 b, .ifi 151 .i64 2] (fun r => r = .ifx) := by
  intro w I vs hG hl hv hI
  obtain ⟨v0, v1, v2, v3, v4, rfl⟩ : ∃ v0 v1 v2 v3 v4, vs = [v0, v1, v2, v3, v4] := by
    match vs, hl with
    | [a, b, c, d, e], _ => exact ⟨a, b, c, d, e, rfl⟩
  obtain ⟨rfl, _⟩ := pr_str_inv (hv 0 v0 _ rfl rfl)
  obtain ⟨rfl, hs⟩ := pr_str_inv (hv 1 v1 _ rfl rfl)
  obtain rfl := pr_int_inv (hv 2 v2 _ rfl rfl)
  obtain rfl := pr_int_inv (hv 3 v3 _ rfl rfl)
  obtain rfl := pr_ifi_inv (hv 4 v4 _ rfl rfl)
  obtain ⟨ev, hc, hev⟩ := hG
  refine (AnyPu.strconv_toError_syntax laysTE ⟨fn.toArray⟩ ⟨s.toArray⟩ B b ev w ?_ hc hev).mono ?_
  · simp [ByteArray.size]
    omega
  rintro e w' ⟨N, rfl, _, _, hb⟩
  exact ⟨_, _, I, rfl, rfl, .ifx _ _, fun b hIb => ⟨Nat.lt_of_lt_of_le (hI b hIb) hb.size, .inl hIb⟩, kept_below hb⟩
def pW : Option Nat → V
  | some n => .tup [.int .i64 n, .nili]
  | none => .tup [.int .i64 0, .ifx]

theorem publicInt_10 (c : UInt8) (s : List UInt8) (h1 : c ≠ 43) (h2 : c ≠ 45) (hl : s.length ≤ 6) : Fn1G Tryd.prog GE 81 [.str (c :: s), .int .i64 10, .int .i64 64] (fun r => r = pW (pU 10 0 (c :: s))) := by
  have hu := parseInt_10 c s h1 h2 hl
  generalize pU 10 0 (c :: s) = o at *
  cases o with
  | none =>
    have hu : Fn1 Tryd.prog 100 [.str (c :: s), .int .i64 10, .int .i64 64] (fun r => r = .tup [.int .i64 0, .ifi 151 .i64 2]) := hu
    refine fn1GE (T := Tryd.tt) Tryd.func81 rfl tt_all follows_all ?_ ?_ fun C hC hW hG hE => ?_
    · kernel_rfl
    · exact Nat.le_of_ble_eq_true (by kernel_rfl)
    conv => whnf
    have hte := (to_error [80, 97, 114, 115, 101, 73, 110, 116] (c :: s) 10 64 (by simp; omega)).c hC hW kept_ge hG
    repeat' (first | (refine brd_t (by first | assumption | omega) ?_; conv => whnf) | (refine brd_f (by first | assumption | omega) ?_; conv => whnf) | (refine ask (by first | assumption | omega) ?_; conv => whnf) | (refine fit64 (by omega) ?_; conv => whnf) | (refine fit (by simp only [kmin, kmax]; omega) ?_; conv => whnf) | (refine br_t (by assumption) ?_; conv => whnf) | (refine br_f (by assumption) ?_; conv => whnf) | (refine get_of (by assumption) ?_; conv => whnf) | (refine get_map (by assumption) ?_; conv => whnf) | (refine cmp_ne 151 (by rw [hC]; kernel_rfl) (by rw [hC]; kernel_rfl) ?_; conv => whnf) | (refine call_eq (hu) hC hasBody_100 ?_ ?_ ?_; kernel_rfl; kernel_rfl; conv => whnf) | (refine callq_eq (hu) hC hasBody_100 ?_ ?_ ?_; kernel_rfl; kernel_rfl; conv => whnf) | (refine callc_eq (hte) hC hasBody_101 rfl ?_ ?_ ?_; kernel_rfl; kernel_rfl; conv => whnf) | (refine callcq_eq (hte) hC hasBody_101 rfl ?_ ?_ ?_; kernel_rfl; kernel_rfl; conv => whnf) | (refine draw_lex hE ?_ ?_; decide +kernel; conv => whnf) | (refine brd (fun h => ?_) (fun h => ?_) <;> conv => whnf) | (refine br (fun h => ?_) (fun h => ?_) <;> conv => whnf) | (refine ret_now hE ?_; conv => whnf) | (intro hlen; conv => whnf) | (refine seg_here ?_; conv => whnf) | (refine both ?_ ?_ <;> conv => whnf))
    all_goals exact ⟨rfl, rfl⟩
  | some m =>
    have hu : Fn1 Tryd.prog 100 [.str (c :: s), .int .i64 10, .int .i64 64] (fun r => r = .tup [.int .i64 (m : Nat), .nili]) := hu
    refine fn1GE (T := Tryd.tt) Tryd.func81 rfl tt_all follows_all ?_ ?_ fun C hC hW hG hE => ?_
    · kernel_rfl
    · exact Nat.le_of_ble_eq_true (by kernel_rfl)
    conv => whnf
    repeat' (first | (refine brd_t (by first | assumption | omega) ?_; conv => whnf) | (refine brd_f (by first | assumption | omega) ?_; conv => whnf) | (refine ask (by first | assumption | omega) ?_; conv => whnf) | (refine fit64 (by omega) ?_; conv => whnf) | (refine fit (by simp only [kmin, kmax]; omega) ?_; conv => whnf) | (refine br_t (by assumption) ?_; conv => whnf) | (refine br_f (by assumption) ?_; conv => whnf) | (refine get_of (by assumption) ?_; conv => whnf) | (refine get_map (by assumption) ?_; conv => whnf) | (refine cmp_ne 151 (by rw [hC]; kernel_rfl) (by rw [hC]; kernel_rfl) ?_; conv => whnf) | (refine call_eq (hu) hC hasBody_100 ?_ ?_ ?_; kernel_rfl; kernel_rfl; conv => whnf) | (refine callq_eq (hu) hC hasBody_100 ?_ ?_ ?_; kernel_rfl; kernel_rfl; conv => whnf) | (refine draw_lex hE ?_ ?_; decide +kernel; conv => whnf) | (refine brd (fun h => ?_) (fun h => ?_) <;> conv => whnf) | (refine br (fun h => ?_) (fun h => ?_) <;> conv => whnf) | (refine ret_now hE ?_; conv => whnf) | (intro hlen; conv => whnf) | (refine seg_here ?_; conv => whnf) | (refine both ?_ ?_ <;> conv => whnf))
    all_goals exact ⟨rfl, rfl⟩

theorem publicInt_16 (c : UInt8) (s : List UInt8) (h1 : c ≠ 43) (h2 : c ≠ 45) (hl : s.length ≤ 6) : Fn1G Tryd.prog GE 81 [.str (c :: s), .int .i64 16, .int .i64 64] (fun r => r = pW (pU 16 0 (c :: s))) := by
  have hu := parseInt_16 c s h1 h2 hl
  generalize pU 16 0 (c :: s) = o at *
  cases o with
  | none =>
    have hu : Fn1 Tryd.prog 100 [.str (c :: s), .int .i64 16, .int .i64 64] (fun r => r = .tup [.int .i64 0, .ifi 151 .i64 2]) := hu
    refine fn1GE (T := Tryd.tt) Tryd.func81 rfl tt_all follows_all ?_ ?_ fun C hC hW hG hE => ?_
    · kernel_rfl
    · exact Nat.le_of_ble_eq_true (by kernel_rfl)
    conv => whnf
    have hte := (to_error [80, 97, 114, 115, 101, 73, 110, 116] (c :: s) 16 64 (by simp; omega)).c hC hW kept_ge hG
    repeat' (first | (refine brd_t (by first | assumption | omega) ?_; conv => whnf) | (refine brd_f (by first | assumption | omega) ?_; conv => whnf) | (refine ask (by first | assumption | omega) ?_; conv => whnf) | (refine fit64 (by omega) ?_; conv => whnf) | (refine fit (by simp only [kmin, kmax]; omega) ?_; conv => whnf) | (refine br_t (by assumption) ?_; conv => whnf) | (refine br_f (by assumption) ?_; conv => whnf) | (refine get_of (by assumption) ?_; conv => whnf) | (refine get_map (by assumption) ?_; conv => whnf) | (refine cmp_ne 151 (by rw [hC]; kernel_rfl) (by rw [hC]; kernel_rfl) ?_; conv => whnf) | (refine call_eq (hu) hC hasBody_100 ?_ ?_ ?_; kernel_rfl; kernel_rfl; conv => whnf) | (refine callq_eq (hu) hC hasBody_100 ?_ ?_ ?_; kernel_rfl; kernel_rfl; conv => whnf) | (refine callc_eq (hte) hC hasBody_101 rfl ?_ ?_ ?_; kernel_rfl; kernel_rfl; conv => whnf) | (refine callcq_eq (hte) hC hasBody_101 rfl ?_ ?_ ?_; kernel_rfl; kernel_rfl; conv => whnf) | (refine draw_lex hE ?_ ?_; decide +kernel; conv => whnf) | (refine brd (fun h => ?_) (fun h => ?_) <;> conv => whnf) | (refine br (fun h => ?_) (fun h => ?_) <;> conv => whnf) | (refine ret_now hE ?_; conv => whnf) | (intro hlen; conv => whnf) | (refine seg_here ?_; conv => whnf) | (refine both ?_ ?_ <;> conv => whnf))
    all_goals exact ⟨rfl, rfl⟩
  | some m =>
    have hu : Fn1 Tryd.prog 100 [.str (c :: s), .int .i64 16, .int .i64 64] (fun r => r = .tup [.int .i64 (m : Nat), .nili]) := hu
    refine fn1GE (T := Tryd.tt) Tryd.func81 rfl tt_all follows_all ?_ ?_ fun C hC hW hG hE => ?_
    · kernel_rfl
    · exact Nat.le_of_ble_eq_true (by kernel_rfl)
    conv => whnf
    repeat' (first | (refine brd_t (by first | assumption | omega) ?_; conv => whnf) | (refine brd_f (by first | assumption | omega) ?_; conv => whnf) | (refine ask (by first | assumption | omega) ?_; conv => whnf) | (refine fit64 (by omega) ?_; conv => whnf) | (refine fit (by simp only [kmin, kmax]; omega) ?_; conv => whnf) | (refine br_t (by assumption) ?_; conv => whnf) | (refine br_f (by assumption) ?_; conv => whnf) | (refine get_of (by assumption) ?_; conv => whnf) | (refine get_map (by assumption) ?_; conv => whnf) | (refine cmp_ne 151 (by rw [hC]; kernel_rfl) (by rw [hC]; kernel_rfl) ?_; conv => whnf) | (refine call_eq (hu) hC hasBody_100 ?_ ?_ ?_; kernel_rfl; kernel_rfl; conv => whnf) | (refine callq_eq (hu) hC hasBody_100 ?_ ?_ ?_; kernel_rfl; kernel_rfl; conv => whnf) | (refine draw_lex hE ?_ ?_; decide +kernel; conv => whnf) | (refine brd (fun h => ?_) (fun h => ?_) <;> conv => whnf) | (refine br (fun h => ?_) (fun h => ?_) <;> conv => whnf) | (refine ret_now hE ?_; conv => whnf) | (intro hlen; conv => whnf) | (refine seg_here ?_; conv => whnf) | (refine both ?_ ?_ <;> conv => whnf))
    all_goals exact ⟨rfl, rfl⟩
end Go.Proofs.YtaeeceabnkgnnaaDoor
