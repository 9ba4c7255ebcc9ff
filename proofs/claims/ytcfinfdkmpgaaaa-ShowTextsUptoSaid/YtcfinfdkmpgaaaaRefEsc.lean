/- ref.Escape and the document's RefEscape, walked; the law RefEscapes. No conditions. -/
import Derived.Test.YtcfinfdkmpgaaaaBldd
set_option linter.unusedSimpArgs false
set_option linter.unusedVariables false
set_option maxRecDepth 100000
namespace Go.Proofs.Ytcfinfdkmpgaaaa
open Go.RowKit

/-- A byte, escaped. -/
def escB (q : Bool) (c : UInt8) : List UInt8 :=
  if c = 38 then [38, 97, 109, 112, 59] else if c = 60 then [38, 108, 116, 59] else if c = 62 then [38, 103, 116, 59] else if c = 34 ∧ q = true then [38, 113, 117, 111, 116, 59] else [c]
theorem escB_len (q : Bool) (c : UInt8) : (escB q c).length ≤ 6 := by
  unfold escB
  (repeat' split) <;> simp
def escT (q : Bool) (s : List UInt8) : List UInt8 := s.flatMap (escB q)
theorem esc_step {s : List UInt8} {k : Nat} {x : UInt8} (q : Bool) (hx : s[k]? = some x) : escT q (s.take (k + 1)) = escT q (s.take k) ++ escB q x := by
  unfold escT
  rw [List.take_add_one, hx, List.flatMap_append]
  simp
theorem escT_len (q : Bool) : ∀ s : List UInt8, (escT q s).length ≤ 6 * s.length
  | [] => by simp [escT]
  | c :: s => by
    have h1 := escB_len q c
    have h2 := escT_len q s
    unfold escT at h2 ⊢
    rw [List.flatMap_cons, List.length_append, List.length_cons]
    omega
theorem u8_ne {x c : UInt8} {n : Nat} (hc : c.toNat = n) (h : ¬ x = c) : ¬ ((x.toNat : Int) = (n : Int)) := fun e => h (UInt8.toNat.inj (by omega))
set_option maxHeartbeats 8000000 in
theorem ref_esc (s : List UInt8) (q : Bool) (hs : s.length ≤ 2097152) : Fn1 Try.prog 63 [.str s, .bool q] (fun r => r = .str (escT q s)) := by
  cases q with
  | false =>
    refine fn1E (T := Try.tt) Try.func63 rfl tt_all follows_all ?_ ?_ fun C hC hE => ?_
    · kernel_rfl
    · exact Nat.le_of_ble_eq_true (by kernel_rfl)
    conv => whnf
    repeat' (first | (refine brd_t (by first | assumption | omega) ?_; conv => whnf) | (refine brd_f (by first | assumption | omega) ?_; conv => whnf) | (refine ask (by first | assumption | omega) ?_; conv => whnf) | (refine fit64 (by omega) ?_; conv => whnf) | (refine fit (by simp only [kmin, kmax]; omega) ?_; conv => whnf) | (refine br_t (by assumption) ?_; conv => whnf) | (refine br_f (by assumption) ?_; conv => whnf) | (refine get_of (by assumption) ?_; conv => whnf) | (refine get_map (by assumption) ?_; conv => whnf) | (refine brd (fun h => ?_) (fun h => ?_) <;> conv => whnf) | (refine br (fun h => ?_) (fun h => ?_) <;> conv => whnf) | (refine ret_now hE ?_; conv => whnf) | (intro hlen; conv => whnf))
    refine loopE (fun ((k, o) : Nat × List UInt8) => ⟨39, [(0, .str s), (1, .bool false), (5, .ptr 0 0 0), (9, .int .i64 s.length), (10, .int .i64 k)], [some (.bld 92 (some (1, o.length))), some (.buf 5 o)]⟩)
      (fun (k, o) => k ≤ s.length ∧ o = escT false (s.take k)) (fun (k, _) => s.length - k) (0, []) hE ?_ ?_ ⟨Nat.zero_le _, by simp [escT]⟩ ?_
    · kernel_rfl
    · exact up_buf 0 5 rfl (at_keep [0, 1, 5, 9, 10] rfl)
    rintro ⟨k, o⟩ ⟨hk, ho⟩
    by_cases hlt : k < s.length
    · obtain ⟨x, hx⟩ : ∃ x, s[k]? = some x := ⟨_, List.getElem?_eq_getElem hlt⟩
      have hlo : o.length ≤ 6 * k := by
        have := escT_len false (s.take k)
        rw [← ho, List.length_take] at this
        omega
      by_cases c1 : x = 38
      · have e1 : (x.toNat : Int) = 38 := by rw [c1]; rfl
        conv => whnf
        repeat' (first | (refine brd_t (by first | assumption | omega) ?_; conv => whnf) | (refine brd_f (by first | assumption | omega) ?_; conv => whnf) | (refine ask (by first | assumption | omega) ?_; conv => whnf) | (refine fit64 (by omega) ?_; conv => whnf) | (refine fit (by simp only [kmin, kmax]; omega) ?_; conv => whnf) | (refine br_t (by assumption) ?_; conv => whnf) | (refine br_f (by assumption) ?_; conv => whnf) | (refine get_of (by assumption) ?_; conv => whnf) | (refine get_map (by assumption) ?_; conv => whnf) | (refine call_ws hC 0 1 (by decide) ?_ rfl rfl rfl ?_; (simp; omega); conv => whnf) | (refine brd (fun h => ?_) (fun h => ?_) <;> conv => whnf) | (refine br (fun h => ?_) (fun h => ?_) <;> conv => whnf) | (refine ret_now hE ?_; conv => whnf) | (intro hlen; conv => whnf))
        exact next_keep [0, 1, 5, 9, 10] (k + 1, o ++ [38, 97, 109, 112, 59]) ⟨hlt, by rw [esc_step false hx, ← ho]; simp [escB, c1]⟩ (show s.length - (k + 1) < s.length - k by omega) rfl
      have n1 := u8_ne (n := 38) rfl c1
      by_cases c2 : x = 60
      · have e1 : (x.toNat : Int) = 60 := by rw [c2]; rfl
        conv => whnf
        repeat' (first | (refine brd_t (by first | assumption | omega) ?_; conv => whnf) | (refine brd_f (by first | assumption | omega) ?_; conv => whnf) | (refine ask (by first | assumption | omega) ?_; conv => whnf) | (refine fit64 (by omega) ?_; conv => whnf) | (refine fit (by simp only [kmin, kmax]; omega) ?_; conv => whnf) | (refine br_t (by assumption) ?_; conv => whnf) | (refine br_f (by assumption) ?_; conv => whnf) | (refine get_of (by assumption) ?_; conv => whnf) | (refine get_map (by assumption) ?_; conv => whnf) | (refine call_ws hC 0 1 (by decide) ?_ rfl rfl rfl ?_; (simp; omega); conv => whnf) | (refine brd (fun h => ?_) (fun h => ?_) <;> conv => whnf) | (refine br (fun h => ?_) (fun h => ?_) <;> conv => whnf) | (refine ret_now hE ?_; conv => whnf) | (intro hlen; conv => whnf))
        exact next_keep [0, 1, 5, 9, 10] (k + 1, o ++ [38, 108, 116, 59]) ⟨hlt, by rw [esc_step false hx, ← ho]; simp [escB, c2]⟩ (show s.length - (k + 1) < s.length - k by omega) rfl
      have n2 := u8_ne (n := 60) rfl c2
      by_cases c3 : x = 62
      · have e1 : (x.toNat : Int) = 62 := by rw [c3]; rfl
        conv => whnf
        repeat' (first | (refine brd_t (by first | assumption | omega) ?_; conv => whnf) | (refine brd_f (by first | assumption | omega) ?_; conv => whnf) | (refine ask (by first | assumption | omega) ?_; conv => whnf) | (refine fit64 (by omega) ?_; conv => whnf) | (refine fit (by simp only [kmin, kmax]; omega) ?_; conv => whnf) | (refine br_t (by assumption) ?_; conv => whnf) | (refine br_f (by assumption) ?_; conv => whnf) | (refine get_of (by assumption) ?_; conv => whnf) | (refine get_map (by assumption) ?_; conv => whnf) | (refine call_ws hC 0 1 (by decide) ?_ rfl rfl rfl ?_; (simp; omega); conv => whnf) | (refine brd (fun h => ?_) (fun h => ?_) <;> conv => whnf) | (refine br (fun h => ?_) (fun h => ?_) <;> conv => whnf) | (refine ret_now hE ?_; conv => whnf) | (intro hlen; conv => whnf))
        exact next_keep [0, 1, 5, 9, 10] (k + 1, o ++ [38, 103, 116, 59]) ⟨hlt, by rw [esc_step false hx, ← ho]; simp [escB, c3]⟩ (show s.length - (k + 1) < s.length - k by omega) rfl
      have n3 := u8_ne (n := 62) rfl c3
      by_cases c4 : x = 34
      · have e1 : (x.toNat : Int) = 34 := by rw [c4]; rfl
        conv => whnf
        repeat' (first | (refine brd_t (by first | assumption | omega) ?_; conv => whnf) | (refine brd_f (by first | assumption | omega) ?_; conv => whnf) | (refine ask (by first | assumption | omega) ?_; conv => whnf) | (refine fit64 (by omega) ?_; conv => whnf) | (refine fit (by simp only [kmin, kmax]; omega) ?_; conv => whnf) | (refine br_t (by assumption) ?_; conv => whnf) | (refine br_f (by assumption) ?_; conv => whnf) | (refine get_of (by assumption) ?_; conv => whnf) | (refine get_map (by assumption) ?_; conv => whnf) | (refine call_wb hC 0 1 (by decide) x (by omega) rfl rfl rfl rfl ?_; conv => whnf) | (refine call_ws hC 0 1 (by decide) ?_ rfl rfl rfl ?_; (simp; omega); conv => whnf) | (refine brd (fun h => ?_) (fun h => ?_) <;> conv => whnf) | (refine br (fun h => ?_) (fun h => ?_) <;> conv => whnf) | (refine ret_now hE ?_; conv => whnf) | (intro hlen; conv => whnf))
        first
          | exact next_keep [0, 1, 5, 9, 10] (k + 1, o ++ [38, 113, 117, 111, 116, 59]) ⟨hlt, by rw [esc_step false hx, ← ho]; simp [escB, c4]⟩ (show s.length - (k + 1) < s.length - k by omega) rfl
          | exact next_keep [0, 1, 5, 9, 10] (k + 1, o ++ [x]) ⟨hlt, by rw [esc_step false hx, ← ho]; simp [escB, c4]⟩ (show s.length - (k + 1) < s.length - k by omega) rfl
      have n4 := u8_ne (n := 34) rfl c4
      conv => whnf
      repeat' (first | (refine brd_t (by first | assumption | omega) ?_; conv => whnf) | (refine brd_f (by first | assumption | omega) ?_; conv => whnf) | (refine ask (by first | assumption | omega) ?_; conv => whnf) | (refine fit64 (by omega) ?_; conv => whnf) | (refine fit (by simp only [kmin, kmax]; omega) ?_; conv => whnf) | (refine br_t (by assumption) ?_; conv => whnf) | (refine br_f (by assumption) ?_; conv => whnf) | (refine get_of (by assumption) ?_; conv => whnf) | (refine get_map (by assumption) ?_; conv => whnf) | (refine call_wb hC 0 1 (by decide) x (by omega) rfl rfl rfl rfl ?_; conv => whnf) | (refine brd (fun h => ?_) (fun h => ?_) <;> conv => whnf) | (refine br (fun h => ?_) (fun h => ?_) <;> conv => whnf) | (refine ret_now hE ?_; conv => whnf) | (intro hlen; conv => whnf))
      exact next_keep [0, 1, 5, 9, 10] (k + 1, o ++ [x]) ⟨hlt, by rw [esc_step false hx, ← ho]; simp [escB, c1, c2, c3, c4]⟩ (show s.length - (k + 1) < s.length - k by omega) rfl
    · conv => whnf
      repeat' (first | (refine brd_t (by first | assumption | omega) ?_; conv => whnf) | (refine brd_f (by first | assumption | omega) ?_; conv => whnf) | (refine ask (by first | assumption | omega) ?_; conv => whnf) | (refine fit64 (by omega) ?_; conv => whnf) | (refine fit (by simp only [kmin, kmax]; omega) ?_; conv => whnf) | (refine br_t (by assumption) ?_; conv => whnf) | (refine br_f (by assumption) ?_; conv => whnf) | (refine get_of (by assumption) ?_; conv => whnf) | (refine get_map (by assumption) ?_; conv => whnf) | (refine call_str hC 0 1 (by decide) rfl rfl rfl ?_; conv => whnf) | (refine brd (fun h => ?_) (fun h => ?_) <;> conv => whnf) | (refine br (fun h => ?_) (fun h => ?_) <;> conv => whnf) | (refine ret_now hE ?_; conv => whnf) | (intro hlen; conv => whnf))
      exact ⟨rfl, by rw [ho, List.take_of_length_le (by omega)]⟩
  | true =>
    refine fn1E (T := Try.tt) Try.func63 rfl tt_all follows_all ?_ ?_ fun C hC hE => ?_
    · kernel_rfl
    · exact Nat.le_of_ble_eq_true (by kernel_rfl)
    conv => whnf
    repeat' (first | (refine brd_t (by first | assumption | omega) ?_; conv => whnf) | (refine brd_f (by first | assumption | omega) ?_; conv => whnf) | (refine ask (by first | assumption | omega) ?_; conv => whnf) | (refine fit64 (by omega) ?_; conv => whnf) | (refine fit (by simp only [kmin, kmax]; omega) ?_; conv => whnf) | (refine br_t (by assumption) ?_; conv => whnf) | (refine br_f (by assumption) ?_; conv => whnf) | (refine get_of (by assumption) ?_; conv => whnf) | (refine get_map (by assumption) ?_; conv => whnf) | (refine brd (fun h => ?_) (fun h => ?_) <;> conv => whnf) | (refine br (fun h => ?_) (fun h => ?_) <;> conv => whnf) | (refine ret_now hE ?_; conv => whnf) | (intro hlen; conv => whnf))
    refine loopE (fun ((k, o) : Nat × List UInt8) => ⟨39, [(0, .str s), (1, .bool true), (5, .ptr 0 0 0), (9, .int .i64 s.length), (10, .int .i64 k)], [some (.bld 92 (some (1, o.length))), some (.buf 5 o)]⟩)
      (fun (k, o) => k ≤ s.length ∧ o = escT true (s.take k)) (fun (k, _) => s.length - k) (0, []) hE ?_ ?_ ⟨Nat.zero_le _, by simp [escT]⟩ ?_
    · kernel_rfl
    · exact up_buf 0 5 rfl (at_keep [0, 1, 5, 9, 10] rfl)
    rintro ⟨k, o⟩ ⟨hk, ho⟩
    by_cases hlt : k < s.length
    · obtain ⟨x, hx⟩ : ∃ x, s[k]? = some x := ⟨_, List.getElem?_eq_getElem hlt⟩
      have hlo : o.length ≤ 6 * k := by
        have := escT_len true (s.take k)
        rw [← ho, List.length_take] at this
        omega
      by_cases c1 : x = 38
      · have e1 : (x.toNat : Int) = 38 := by rw [c1]; rfl
        conv => whnf
        repeat' (first | (refine brd_t (by first | assumption | omega) ?_; conv => whnf) | (refine brd_f (by first | assumption | omega) ?_; conv => whnf) | (refine ask (by first | assumption | omega) ?_; conv => whnf) | (refine fit64 (by omega) ?_; conv => whnf) | (refine fit (by simp only [kmin, kmax]; omega) ?_; conv => whnf) | (refine br_t (by assumption) ?_; conv => whnf) | (refine br_f (by assumption) ?_; conv => whnf) | (refine get_of (by assumption) ?_; conv => whnf) | (refine get_map (by assumption) ?_; conv => whnf) | (refine call_ws hC 0 1 (by decide) ?_ rfl rfl rfl ?_; (simp; omega); conv => whnf) | (refine brd (fun h => ?_) (fun h => ?_) <;> conv => whnf) | (refine br (fun h => ?_) (fun h => ?_) <;> conv => whnf) | (refine ret_now hE ?_; conv => whnf) | (intro hlen; conv => whnf))
        exact next_keep [0, 1, 5, 9, 10] (k + 1, o ++ [38, 97, 109, 112, 59]) ⟨hlt, by rw [esc_step true hx, ← ho]; simp [escB, c1]⟩ (show s.length - (k + 1) < s.length - k by omega) rfl
      have n1 := u8_ne (n := 38) rfl c1
      by_cases c2 : x = 60
      · have e1 : (x.toNat : Int) = 60 := by rw [c2]; rfl
        conv => whnf
        repeat' (first | (refine brd_t (by first | assumption | omega) ?_; conv => whnf) | (refine brd_f (by first | assumption | omega) ?_; conv => whnf) | (refine ask (by first | assumption | omega) ?_; conv => whnf) | (refine fit64 (by omega) ?_; conv => whnf) | (refine fit (by simp only [kmin, kmax]; omega) ?_; conv => whnf) | (refine br_t (by assumption) ?_; conv => whnf) | (refine br_f (by assumption) ?_; conv => whnf) | (refine get_of (by assumption) ?_; conv => whnf) | (refine get_map (by assumption) ?_; conv => whnf) | (refine call_ws hC 0 1 (by decide) ?_ rfl rfl rfl ?_; (simp; omega); conv => whnf) | (refine brd (fun h => ?_) (fun h => ?_) <;> conv => whnf) | (refine br (fun h => ?_) (fun h => ?_) <;> conv => whnf) | (refine ret_now hE ?_; conv => whnf) | (intro hlen; conv => whnf))
        exact next_keep [0, 1, 5, 9, 10] (k + 1, o ++ [38, 108, 116, 59]) ⟨hlt, by rw [esc_step true hx, ← ho]; simp [escB, c2]⟩ (show s.length - (k + 1) < s.length - k by omega) rfl
      have n2 := u8_ne (n := 60) rfl c2
      by_cases c3 : x = 62
      · have e1 : (x.toNat : Int) = 62 := by rw [c3]; rfl
        conv => whnf
        repeat' (first | (refine brd_t (by first | assumption | omega) ?_; conv => whnf) | (refine brd_f (by first | assumption | omega) ?_; conv => whnf) | (refine ask (by first | assumption | omega) ?_; conv => whnf) | (refine fit64 (by omega) ?_; conv => whnf) | (refine fit (by simp only [kmin, kmax]; omega) ?_; conv => whnf) | (refine br_t (by assumption) ?_; conv => whnf) | (refine br_f (by assumption) ?_; conv => whnf) | (refine get_of (by assumption) ?_; conv => whnf) | (refine get_map (by assumption) ?_; conv => whnf) | (refine call_ws hC 0 1 (by decide) ?_ rfl rfl rfl ?_; (simp; omega); conv => whnf) | (refine brd (fun h => ?_) (fun h => ?_) <;> conv => whnf) | (refine br (fun h => ?_) (fun h => ?_) <;> conv => whnf) | (refine ret_now hE ?_; conv => whnf) | (intro hlen; conv => whnf))
        exact next_keep [0, 1, 5, 9, 10] (k + 1, o ++ [38, 103, 116, 59]) ⟨hlt, by rw [esc_step true hx, ← ho]; simp [escB, c3]⟩ (show s.length - (k + 1) < s.length - k by omega) rfl
      have n3 := u8_ne (n := 62) rfl c3
      by_cases c4 : x = 34
      · have e1 : (x.toNat : Int) = 34 := by rw [c4]; rfl
        conv => whnf
        repeat' (first | (refine brd_t (by first | assumption | omega) ?_; conv => whnf) | (refine brd_f (by first | assumption | omega) ?_; conv => whnf) | (refine ask (by first | assumption | omega) ?_; conv => whnf) | (refine fit64 (by omega) ?_; conv => whnf) | (refine fit (by simp only [kmin, kmax]; omega) ?_; conv => whnf) | (refine br_t (by assumption) ?_; conv => whnf) | (refine br_f (by assumption) ?_; conv => whnf) | (refine get_of (by assumption) ?_; conv => whnf) | (refine get_map (by assumption) ?_; conv => whnf) | (refine call_wb hC 0 1 (by decide) x (by omega) rfl rfl rfl rfl ?_; conv => whnf) | (refine call_ws hC 0 1 (by decide) ?_ rfl rfl rfl ?_; (simp; omega); conv => whnf) | (refine brd (fun h => ?_) (fun h => ?_) <;> conv => whnf) | (refine br (fun h => ?_) (fun h => ?_) <;> conv => whnf) | (refine ret_now hE ?_; conv => whnf) | (intro hlen; conv => whnf))
        first
          | exact next_keep [0, 1, 5, 9, 10] (k + 1, o ++ [38, 113, 117, 111, 116, 59]) ⟨hlt, by rw [esc_step true hx, ← ho]; simp [escB, c4]⟩ (show s.length - (k + 1) < s.length - k by omega) rfl
          | exact next_keep [0, 1, 5, 9, 10] (k + 1, o ++ [x]) ⟨hlt, by rw [esc_step true hx, ← ho]; simp [escB, c4]⟩ (show s.length - (k + 1) < s.length - k by omega) rfl
      have n4 := u8_ne (n := 34) rfl c4
      conv => whnf
      repeat' (first | (refine brd_t (by first | assumption | omega) ?_; conv => whnf) | (refine brd_f (by first | assumption | omega) ?_; conv => whnf) | (refine ask (by first | assumption | omega) ?_; conv => whnf) | (refine fit64 (by omega) ?_; conv => whnf) | (refine fit (by simp only [kmin, kmax]; omega) ?_; conv => whnf) | (refine br_t (by assumption) ?_; conv => whnf) | (refine br_f (by assumption) ?_; conv => whnf) | (refine get_of (by assumption) ?_; conv => whnf) | (refine get_map (by assumption) ?_; conv => whnf) | (refine call_wb hC 0 1 (by decide) x (by omega) rfl rfl rfl rfl ?_; conv => whnf) | (refine brd (fun h => ?_) (fun h => ?_) <;> conv => whnf) | (refine br (fun h => ?_) (fun h => ?_) <;> conv => whnf) | (refine ret_now hE ?_; conv => whnf) | (intro hlen; conv => whnf))
      exact next_keep [0, 1, 5, 9, 10] (k + 1, o ++ [x]) ⟨hlt, by rw [esc_step true hx, ← ho]; simp [escB, c1, c2, c3, c4]⟩ (show s.length - (k + 1) < s.length - k by omega) rfl
    · conv => whnf
      repeat' (first | (refine brd_t (by first | assumption | omega) ?_; conv => whnf) | (refine brd_f (by first | assumption | omega) ?_; conv => whnf) | (refine ask (by first | assumption | omega) ?_; conv => whnf) | (refine fit64 (by omega) ?_; conv => whnf) | (refine fit (by simp only [kmin, kmax]; omega) ?_; conv => whnf) | (refine br_t (by assumption) ?_; conv => whnf) | (refine br_f (by assumption) ?_; conv => whnf) | (refine get_of (by assumption) ?_; conv => whnf) | (refine get_map (by assumption) ?_; conv => whnf) | (refine call_str hC 0 1 (by decide) rfl rfl rfl ?_; conv => whnf) | (refine brd (fun h => ?_) (fun h => ?_) <;> conv => whnf) | (refine br (fun h => ?_) (fun h => ?_) <;> conv => whnf) | (refine ret_now hE ?_; conv => whnf) | (intro hlen; conv => whnf))
      exact ⟨rfl, by rw [ho, List.take_of_length_le (by omega)]⟩
set_option maxHeartbeats 8000000 in
theorem doc_esc (s : List UInt8) (q : Bool) (hs : s.length ≤ 2097152) : Fn1 Try.prog 66 [.str s, .bool q] (fun r => r = .str (escT q s)) := by
  cases q with
  | false =>
    refine fn1E (T := Try.tt) Try.func66 rfl tt_all follows_all ?_ ?_ fun C hC hE => ?_
    · kernel_rfl
    · exact Nat.le_of_ble_eq_true (by kernel_rfl)
    conv => whnf
    repeat' (first | (refine brd_t (by first | assumption | omega) ?_; conv => whnf) | (refine brd_f (by first | assumption | omega) ?_; conv => whnf) | (refine ask (by first | assumption | omega) ?_; conv => whnf) | (refine fit64 (by omega) ?_; conv => whnf) | (refine fit (by simp only [kmin, kmax]; omega) ?_; conv => whnf) | (refine br_t (by assumption) ?_; conv => whnf) | (refine br_f (by assumption) ?_; conv => whnf) | (refine get_of (by assumption) ?_; conv => whnf) | (refine get_map (by assumption) ?_; conv => whnf) | (refine brd (fun h => ?_) (fun h => ?_) <;> conv => whnf) | (refine br (fun h => ?_) (fun h => ?_) <;> conv => whnf) | (refine ret_now hE ?_; conv => whnf) | (intro hlen; conv => whnf))
    refine loopE (fun ((k, o) : Nat × List UInt8) => ⟨38, [(0, .str s), (1, .bool false), (5, .str o), (6, .int .i64 k)], []⟩)
      (fun (k, o) => k ≤ s.length ∧ o = escT false (s.take k)) (fun (k, _) => s.length - k) (0, []) hE ?_ ?_ ⟨Nat.zero_le _, by simp [escT]⟩ ?_
    · kernel_rfl
    · exact at_keep [0, 1, 5, 6] rfl
    rintro ⟨k, o⟩ ⟨hk, ho⟩
    by_cases hlt : k < s.length
    · obtain ⟨x, hx⟩ : ∃ x, s[k]? = some x := ⟨_, List.getElem?_eq_getElem hlt⟩
      have hlo : o.length ≤ 6 * k := by
        have := escT_len false (s.take k)
        rw [← ho, List.length_take] at this
        omega
      have hcut : (s.take (((k : Nat) : Int) + 1).toNat).drop ((k : Nat) : Int).toNat = [x] := by
        rw [Int.toNat_natCast, show ((k : Int) + 1).toNat = k + 1 by omega, List.take_add_one, List.drop_append_of_le_length (by rw [List.length_take]; omega), hx]
        simp
      by_cases c1 : x = 38
      · have e1 : ([x] : List UInt8) = (ByteArray.mk #[38]).data.toList := by rw [c1]
        conv => whnf
        repeat' (first | (refine brd_t (by first | assumption | omega) ?_; conv => whnf) | (refine brd_f (by first | assumption | omega) ?_; conv => whnf) | (refine ask (by first | assumption | omega) ?_; conv => whnf) | (refine fit64 (by omega) ?_; conv => whnf) | (refine fit (by simp only [kmin, kmax]; omega) ?_; conv => whnf) | (refine br_t (by assumption) ?_; conv => whnf) | (refine br_f (by assumption) ?_; conv => whnf) | (refine get_of (by assumption) ?_; conv => whnf) | (refine get_map (by assumption) ?_; conv => whnf) | (rw [hcut]) | (refine ask ?_ ?_; (simp; omega); conv => whnf) | (refine brd (fun h => ?_) (fun h => ?_) <;> conv => whnf) | (refine br (fun h => ?_) (fun h => ?_) <;> conv => whnf) | (refine ret_now hE ?_; conv => whnf) | (intro hlen; conv => whnf))
        exact next_keep [0, 1, 5, 6] (k + 1, o ++ [38, 97, 109, 112, 59]) ⟨hlt, by rw [esc_step false hx, ← ho]; simp [escB, c1]⟩ (show s.length - (k + 1) < s.length - k by omega) rfl
      have n1 : ¬ ([x] : List UInt8) = (ByteArray.mk #[38]).data.toList := by simpa using c1
      by_cases c2 : x = 60
      · have e1 : ([x] : List UInt8) = (ByteArray.mk #[60]).data.toList := by rw [c2]
        conv => whnf
        repeat' (first | (refine brd_t (by first | assumption | omega) ?_; conv => whnf) | (refine brd_f (by first | assumption | omega) ?_; conv => whnf) | (refine ask (by first | assumption | omega) ?_; conv => whnf) | (refine fit64 (by omega) ?_; conv => whnf) | (refine fit (by simp only [kmin, kmax]; omega) ?_; conv => whnf) | (refine br_t (by assumption) ?_; conv => whnf) | (refine br_f (by assumption) ?_; conv => whnf) | (refine get_of (by assumption) ?_; conv => whnf) | (refine get_map (by assumption) ?_; conv => whnf) | (rw [hcut]) | (refine ask ?_ ?_; (simp; omega); conv => whnf) | (refine brd (fun h => ?_) (fun h => ?_) <;> conv => whnf) | (refine br (fun h => ?_) (fun h => ?_) <;> conv => whnf) | (refine ret_now hE ?_; conv => whnf) | (intro hlen; conv => whnf))
        exact next_keep [0, 1, 5, 6] (k + 1, o ++ [38, 108, 116, 59]) ⟨hlt, by rw [esc_step false hx, ← ho]; simp [escB, c2]⟩ (show s.length - (k + 1) < s.length - k by omega) rfl
      have n2 : ¬ ([x] : List UInt8) = (ByteArray.mk #[60]).data.toList := by simpa using c2
      by_cases c3 : x = 62
      · have e1 : ([x] : List UInt8) = (ByteArray.mk #[62]).data.toList := by rw [c3]
        conv => whnf
        repeat' (first | (refine brd_t (by first | assumption | omega) ?_; conv => whnf) | (refine brd_f (by first | assumption | omega) ?_; conv => whnf) | (refine ask (by first | assumption | omega) ?_; conv => whnf) | (refine fit64 (by omega) ?_; conv => whnf) | (refine fit (by simp only [kmin, kmax]; omega) ?_; conv => whnf) | (refine br_t (by assumption) ?_; conv => whnf) | (refine br_f (by assumption) ?_; conv => whnf) | (refine get_of (by assumption) ?_; conv => whnf) | (refine get_map (by assumption) ?_; conv => whnf) | (rw [hcut]) | (refine ask ?_ ?_; (simp; omega); conv => whnf) | (refine brd (fun h => ?_) (fun h => ?_) <;> conv => whnf) | (refine br (fun h => ?_) (fun h => ?_) <;> conv => whnf) | (refine ret_now hE ?_; conv => whnf) | (intro hlen; conv => whnf))
        exact next_keep [0, 1, 5, 6] (k + 1, o ++ [38, 103, 116, 59]) ⟨hlt, by rw [esc_step false hx, ← ho]; simp [escB, c3]⟩ (show s.length - (k + 1) < s.length - k by omega) rfl
      have n3 : ¬ ([x] : List UInt8) = (ByteArray.mk #[62]).data.toList := by simpa using c3
      by_cases c4 : x = 34
      · have e1 : ([x] : List UInt8) = (ByteArray.mk #[34]).data.toList := by rw [c4]
        conv => whnf
        repeat' (first | (refine brd_t (by first | assumption | omega) ?_; conv => whnf) | (refine brd_f (by first | assumption | omega) ?_; conv => whnf) | (refine ask (by first | assumption | omega) ?_; conv => whnf) | (refine fit64 (by omega) ?_; conv => whnf) | (refine fit (by simp only [kmin, kmax]; omega) ?_; conv => whnf) | (refine br_t (by assumption) ?_; conv => whnf) | (refine br_f (by assumption) ?_; conv => whnf) | (refine get_of (by assumption) ?_; conv => whnf) | (refine get_map (by assumption) ?_; conv => whnf) | (rw [hcut]) | (refine ask ?_ ?_; (simp; omega); conv => whnf) | (refine brd (fun h => ?_) (fun h => ?_) <;> conv => whnf) | (refine br (fun h => ?_) (fun h => ?_) <;> conv => whnf) | (refine ret_now hE ?_; conv => whnf) | (intro hlen; conv => whnf))
        exact next_keep [0, 1, 5, 6] (k + 1, o ++ [x]) ⟨hlt, by rw [esc_step false hx, ← ho]; simp [escB, c1, c2, c3]⟩ (show s.length - (k + 1) < s.length - k by omega) rfl
      have n4 : ¬ ([x] : List UInt8) = (ByteArray.mk #[34]).data.toList := by simpa using c4
      conv => whnf
      repeat' (first | (refine brd_t (by first | assumption | omega) ?_; conv => whnf) | (refine brd_f (by first | assumption | omega) ?_; conv => whnf) | (refine ask (by first | assumption | omega) ?_; conv => whnf) | (refine fit64 (by omega) ?_; conv => whnf) | (refine fit (by simp only [kmin, kmax]; omega) ?_; conv => whnf) | (refine br_t (by assumption) ?_; conv => whnf) | (refine br_f (by assumption) ?_; conv => whnf) | (refine get_of (by assumption) ?_; conv => whnf) | (refine get_map (by assumption) ?_; conv => whnf) | (rw [hcut]) | (refine ask ?_ ?_; (simp; omega); conv => whnf) | (refine brd (fun h => ?_) (fun h => ?_) <;> conv => whnf) | (refine br (fun h => ?_) (fun h => ?_) <;> conv => whnf) | (refine ret_now hE ?_; conv => whnf) | (intro hlen; conv => whnf))
      exact next_keep [0, 1, 5, 6] (k + 1, o ++ [x]) ⟨hlt, by rw [esc_step false hx, ← ho]; simp [escB, c1, c2, c3, c4]⟩ (show s.length - (k + 1) < s.length - k by omega) rfl
    · conv => whnf
      repeat' (first | (refine brd_t (by first | assumption | omega) ?_; conv => whnf) | (refine brd_f (by first | assumption | omega) ?_; conv => whnf) | (refine ask (by first | assumption | omega) ?_; conv => whnf) | (refine fit64 (by omega) ?_; conv => whnf) | (refine fit (by simp only [kmin, kmax]; omega) ?_; conv => whnf) | (refine br_t (by assumption) ?_; conv => whnf) | (refine br_f (by assumption) ?_; conv => whnf) | (refine get_of (by assumption) ?_; conv => whnf) | (refine get_map (by assumption) ?_; conv => whnf) | (refine brd (fun h => ?_) (fun h => ?_) <;> conv => whnf) | (refine br (fun h => ?_) (fun h => ?_) <;> conv => whnf) | (refine ret_now hE ?_; conv => whnf) | (intro hlen; conv => whnf))
      exact ⟨rfl, by rw [ho, List.take_of_length_le (by omega)]⟩
  | true =>
    refine fn1E (T := Try.tt) Try.func66 rfl tt_all follows_all ?_ ?_ fun C hC hE => ?_
    · kernel_rfl
    · exact Nat.le_of_ble_eq_true (by kernel_rfl)
    conv => whnf
    repeat' (first | (refine brd_t (by first | assumption | omega) ?_; conv => whnf) | (refine brd_f (by first | assumption | omega) ?_; conv => whnf) | (refine ask (by first | assumption | omega) ?_; conv => whnf) | (refine fit64 (by omega) ?_; conv => whnf) | (refine fit (by simp only [kmin, kmax]; omega) ?_; conv => whnf) | (refine br_t (by assumption) ?_; conv => whnf) | (refine br_f (by assumption) ?_; conv => whnf) | (refine get_of (by assumption) ?_; conv => whnf) | (refine get_map (by assumption) ?_; conv => whnf) | (refine brd (fun h => ?_) (fun h => ?_) <;> conv => whnf) | (refine br (fun h => ?_) (fun h => ?_) <;> conv => whnf) | (refine ret_now hE ?_; conv => whnf) | (intro hlen; conv => whnf))
    refine loopE (fun ((k, o) : Nat × List UInt8) => ⟨38, [(0, .str s), (1, .bool true), (5, .str o), (6, .int .i64 k)], []⟩)
      (fun (k, o) => k ≤ s.length ∧ o = escT true (s.take k)) (fun (k, _) => s.length - k) (0, []) hE ?_ ?_ ⟨Nat.zero_le _, by simp [escT]⟩ ?_
    · kernel_rfl
    · exact at_keep [0, 1, 5, 6] rfl
    rintro ⟨k, o⟩ ⟨hk, ho⟩
    by_cases hlt : k < s.length
    · obtain ⟨x, hx⟩ : ∃ x, s[k]? = some x := ⟨_, List.getElem?_eq_getElem hlt⟩
      have hlo : o.length ≤ 6 * k := by
        have := escT_len true (s.take k)
        rw [← ho, List.length_take] at this
        omega
      have hcut : (s.take (((k : Nat) : Int) + 1).toNat).drop ((k : Nat) : Int).toNat = [x] := by
        rw [Int.toNat_natCast, show ((k : Int) + 1).toNat = k + 1 by omega, List.take_add_one, List.drop_append_of_le_length (by rw [List.length_take]; omega), hx]
        simp
      by_cases c1 : x = 38
      · have e1 : ([x] : List UInt8) = (ByteArray.mk #[38]).data.toList := by rw [c1]
        conv => whnf
        repeat' (first | (refine brd_t (by first | assumption | omega) ?_; conv => whnf) | (refine brd_f (by first | assumption | omega) ?_; conv => whnf) | (refine ask (by first | assumption | omega) ?_; conv => whnf) | (refine fit64 (by omega) ?_; conv => whnf) | (refine fit (by simp only [kmin, kmax]; omega) ?_; conv => whnf) | (refine br_t (by assumption) ?_; conv => whnf) | (refine br_f (by assumption) ?_; conv => whnf) | (refine get_of (by assumption) ?_; conv => whnf) | (refine get_map (by assumption) ?_; conv => whnf) | (rw [hcut]) | (refine ask ?_ ?_; (simp; omega); conv => whnf) | (refine brd (fun h => ?_) (fun h => ?_) <;> conv => whnf) | (refine br (fun h => ?_) (fun h => ?_) <;> conv => whnf) | (refine ret_now hE ?_; conv => whnf) | (intro hlen; conv => whnf))
        exact next_keep [0, 1, 5, 6] (k + 1, o ++ [38, 97, 109, 112, 59]) ⟨hlt, by rw [esc_step true hx, ← ho]; simp [escB, c1]⟩ (show s.length - (k + 1) < s.length - k by omega) rfl
      have n1 : ¬ ([x] : List UInt8) = (ByteArray.mk #[38]).data.toList := by simpa using c1
      by_cases c2 : x = 60
      · have e1 : ([x] : List UInt8) = (ByteArray.mk #[60]).data.toList := by rw [c2]
        conv => whnf
        repeat' (first | (refine brd_t (by first | assumption | omega) ?_; conv => whnf) | (refine brd_f (by first | assumption | omega) ?_; conv => whnf) | (refine ask (by first | assumption | omega) ?_; conv => whnf) | (refine fit64 (by omega) ?_; conv => whnf) | (refine fit (by simp only [kmin, kmax]; omega) ?_; conv => whnf) | (refine br_t (by assumption) ?_; conv => whnf) | (refine br_f (by assumption) ?_; conv => whnf) | (refine get_of (by assumption) ?_; conv => whnf) | (refine get_map (by assumption) ?_; conv => whnf) | (rw [hcut]) | (refine ask ?_ ?_; (simp; omega); conv => whnf) | (refine brd (fun h => ?_) (fun h => ?_) <;> conv => whnf) | (refine br (fun h => ?_) (fun h => ?_) <;> conv => whnf) | (refine ret_now hE ?_; conv => whnf) | (intro hlen; conv => whnf))
        exact next_keep [0, 1, 5, 6] (k + 1, o ++ [38, 108, 116, 59]) ⟨hlt, by rw [esc_step true hx, ← ho]; simp [escB, c2]⟩ (show s.length - (k + 1) < s.length - k by omega) rfl
      have n2 : ¬ ([x] : List UInt8) = (ByteArray.mk #[60]).data.toList := by simpa using c2
      by_cases c3 : x = 62
      · have e1 : ([x] : List UInt8) = (ByteArray.mk #[62]).data.toList := by rw [c3]
        conv => whnf
        repeat' (first | (refine brd_t (by first | assumption | omega) ?_; conv => whnf) | (refine brd_f (by first | assumption | omega) ?_; conv => whnf) | (refine ask (by first | assumption | omega) ?_; conv => whnf) | (refine fit64 (by omega) ?_; conv => whnf) | (refine fit (by simp only [kmin, kmax]; omega) ?_; conv => whnf) | (refine br_t (by assumption) ?_; conv => whnf) | (refine br_f (by assumption) ?_; conv => whnf) | (refine get_of (by assumption) ?_; conv => whnf) | (refine get_map (by assumption) ?_; conv => whnf) | (rw [hcut]) | (refine ask ?_ ?_; (simp; omega); conv => whnf) | (refine brd (fun h => ?_) (fun h => ?_) <;> conv => whnf) | (refine br (fun h => ?_) (fun h => ?_) <;> conv => whnf) | (refine ret_now hE ?_; conv => whnf) | (intro hlen; conv => whnf))
        exact next_keep [0, 1, 5, 6] (k + 1, o ++ [38, 103, 116, 59]) ⟨hlt, by rw [esc_step true hx, ← ho]; simp [escB, c3]⟩ (show s.length - (k + 1) < s.length - k by omega) rfl
      have n3 : ¬ ([x] : List UInt8) = (ByteArray.mk #[62]).data.toList := by simpa using c3
      by_cases c4 : x = 34
      · have e1 : ([x] : List UInt8) = (ByteArray.mk #[34]).data.toList := by rw [c4]
        conv => whnf
        repeat' (first | (refine brd_t (by first | assumption | omega) ?_; conv => whnf) | (refine brd_f (by first | assumption | omega) ?_; conv => whnf) | (refine ask (by first | assumption | omega) ?_; conv => whnf) | (refine fit64 (by omega) ?_; conv => whnf) | (refine fit (by simp only [kmin, kmax]; omega) ?_; conv => whnf) | (refine br_t (by assumption) ?_; conv => whnf) | (refine br_f (by assumption) ?_; conv => whnf) | (refine get_of (by assumption) ?_; conv => whnf) | (refine get_map (by assumption) ?_; conv => whnf) | (rw [hcut]) | (refine ask ?_ ?_; (simp; omega); conv => whnf) | (refine brd (fun h => ?_) (fun h => ?_) <;> conv => whnf) | (refine br (fun h => ?_) (fun h => ?_) <;> conv => whnf) | (refine ret_now hE ?_; conv => whnf) | (intro hlen; conv => whnf))
        exact next_keep [0, 1, 5, 6] (k + 1, o ++ [38, 113, 117, 111, 116, 59]) ⟨hlt, by rw [esc_step true hx, ← ho]; simp [escB, c4]⟩ (show s.length - (k + 1) < s.length - k by omega) rfl
      have n4 : ¬ ([x] : List UInt8) = (ByteArray.mk #[34]).data.toList := by simpa using c4
      conv => whnf
      repeat' (first | (refine brd_t (by first | assumption | omega) ?_; conv => whnf) | (refine brd_f (by first | assumption | omega) ?_; conv => whnf) | (refine ask (by first | assumption | omega) ?_; conv => whnf) | (refine fit64 (by omega) ?_; conv => whnf) | (refine fit (by simp only [kmin, kmax]; omega) ?_; conv => whnf) | (refine br_t (by assumption) ?_; conv => whnf) | (refine br_f (by assumption) ?_; conv => whnf) | (refine get_of (by assumption) ?_; conv => whnf) | (refine get_map (by assumption) ?_; conv => whnf) | (rw [hcut]) | (refine ask ?_ ?_; (simp; omega); conv => whnf) | (refine brd (fun h => ?_) (fun h => ?_) <;> conv => whnf) | (refine br (fun h => ?_) (fun h => ?_) <;> conv => whnf) | (refine ret_now hE ?_; conv => whnf) | (intro hlen; conv => whnf))
      exact next_keep [0, 1, 5, 6] (k + 1, o ++ [x]) ⟨hlt, by rw [esc_step true hx, ← ho]; simp [escB, c1, c2, c3, c4]⟩ (show s.length - (k + 1) < s.length - k by omega) rfl
    · conv => whnf
      repeat' (first | (refine brd_t (by first | assumption | omega) ?_; conv => whnf) | (refine brd_f (by first | assumption | omega) ?_; conv => whnf) | (refine ask (by first | assumption | omega) ?_; conv => whnf) | (refine fit64 (by omega) ?_; conv => whnf) | (refine fit (by simp only [kmin, kmax]; omega) ?_; conv => whnf) | (refine br_t (by assumption) ?_; conv => whnf) | (refine br_f (by assumption) ?_; conv => whnf) | (refine get_of (by assumption) ?_; conv => whnf) | (refine get_map (by assumption) ?_; conv => whnf) | (refine brd (fun h => ?_) (fun h => ?_) <;> conv => whnf) | (refine br (fun h => ?_) (fun h => ?_) <;> conv => whnf) | (refine ret_now hE ?_; conv => whnf) | (intro hlen; conv => whnf))
      exact ⟨rfl, by rw [ho, List.take_of_length_le (by omega)]⟩
end Go.Proofs.Ytcfinfdkmpgaaaa
