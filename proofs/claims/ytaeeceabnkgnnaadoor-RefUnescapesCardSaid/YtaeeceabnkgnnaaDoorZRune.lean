/- utf.Text and the document's UtfText, walked; the law UtfTexts. No conditions. -/
import Derived.Test.YtaeeceabnkgnnaaDoorAwx
import Derived.Test.YtaeeceabnkgnnaaDoorAwz
import Derived.Test.YtaeeceabnkgnnaaDoorData
import Derived.Test.YtaeeceabnkgnnaaDoorOwn
/-! utf8.AppendRune, utf8.ValidRune and the document's utfBytes, isLetter, walked. No conditions. -/
set_option linter.unusedSimpArgs false
set_option linter.unusedVariables false
set_option maxRecDepth 100000
namespace Go.Proofs.YtaeeceabnkgnnaaDoor
open Go.RowKit

/-- Is it a letter? -/
def letB (n : Int) : Bool := decide (0 ≤ n ∧ n ≤ 1114111 ∧ (n < 55296 ∨ 57343 < n))
theorem valid_rune (n : Int) : Fn1 Tryd.prog 82 [.int .i32 n] (fun r => r = .bool (letB n)) := by
  refine fn1E (T := Tryd.tt) Tryd.func82 rfl tt_all follows_all ?_ ?_ fun C hC hE => ?_
  · kernel_rfl
  · exact Nat.le_of_ble_eq_true (by kernel_rfl)
  conv => whnf
  repeat' (first | (refine brd_t (by first | assumption | omega) ?_; conv => whnf) | (refine brd_f (by first | assumption | omega) ?_; conv => whnf) | (refine ask (by first | assumption | omega) ?_; conv => whnf) | (refine fit64 (by omega) ?_; conv => whnf) | (refine fit (by simp only [kmin, kmax]; omega) ?_; conv => whnf) | (refine br_t (by assumption) ?_; conv => whnf) | (refine br_f (by assumption) ?_; conv => whnf) | (refine get_of (by assumption) ?_; conv => whnf) | (refine get_map (by assumption) ?_; conv => whnf) | (refine draw_lex hE ?_ ?_; decide +kernel; conv => whnf) | (refine brd (fun h => ?_) (fun h => ?_) <;> conv => whnf) | (refine br (fun h => ?_) (fun h => ?_) <;> conv => whnf) | (refine ret_now hE ?_; conv => whnf) | (intro hlen; conv => whnf) | (refine seg_here ?_; conv => whnf) | (refine both ?_ ?_ <;> conv => whnf))
  all_goals exact ⟨rfl, by unfold letB; congr 1; simp; omega⟩
theorem is_letter (n : Int) : Fn1 Tryd.prog 65 [.int .i64 n] (fun r => r = .bool (letB n)) := by
  refine fn1E (T := Tryd.tt) Tryd.func65 rfl tt_all follows_all ?_ ?_ fun C hC hE => ?_
  · kernel_rfl
  · exact Nat.le_of_ble_eq_true (by kernel_rfl)
  conv => whnf
  repeat' (first | (refine brd_t (by first | assumption | omega) ?_; conv => whnf) | (refine brd_f (by first | assumption | omega) ?_; conv => whnf) | (refine ask (by first | assumption | omega) ?_; conv => whnf) | (refine fit64 (by omega) ?_; conv => whnf) | (refine fit (by simp only [kmin, kmax]; omega) ?_; conv => whnf) | (refine br_t (by assumption) ?_; conv => whnf) | (refine br_f (by assumption) ?_; conv => whnf) | (refine get_of (by assumption) ?_; conv => whnf) | (refine get_map (by assumption) ?_; conv => whnf) | (refine draw_lex hE ?_ ?_; decide +kernel; conv => whnf) | (refine brd (fun h => ?_) (fun h => ?_) <;> conv => whnf) | (refine br (fun h => ?_) (fun h => ?_) <;> conv => whnf) | (refine ret_now hE ?_; conv => whnf) | (intro hlen; conv => whnf) | (refine seg_here ?_; conv => whnf) | (refine both ?_ ?_ <;> conv => whnf))
  all_goals exact ⟨rfl, by unfold letB; congr 1; simp; omega⟩
/-- A letter's bytes. -/
def ub (n : Int) : UInt8 := UInt8.ofNat n.toNat
def runeB (n : Int) : List UInt8 :=
  if n < 128 then [ub n] else if n < 2048 then [ub (192 + n / 64), ub (128 + n % 64)]
  else if n < 65536 then [ub (224 + n / 4096), ub (128 + n / 64 % 64), ub (128 + n % 64)]
  else [ub (240 + n / 262144), ub (128 + n / 4096 % 64), ub (128 + n / 64 % 64), ub (128 + n % 64)]
theorem ub_val {n : Int} (h0 : 0 ≤ n) (h : n < 256) : (((ub n).toNat : Nat) : Int) = n := by
  unfold ub
  simp
  omega
/-! ### Bits -/
theorem u8_wrap (m : Int) : IntKind.u8.wrap m = m % 256 := by simp [IntKind.wrap, IntKind.bits, IntKind.signed]
theorem bv_of {m : Int} (h0 : 0 ≤ m) (h : m < 256) : ∃ j : Fin 256, m = (j.val : Int) := ⟨⟨m.toNat, by omega⟩, by simp; omega⟩
theorem tail_all : ∀ j : Fin 256, bitOr .u8 128 (bitAnd .u8 (j.val : Int) 63) = 128 + (j.val : Int) % 64 := by decide +kernel
theorem head2_all : ∀ j : Fin 256, j.val < 32 → bitOr .u8 192 (j.val : Int) = 192 + (j.val : Int) := by decide +kernel
theorem head3_all : ∀ j : Fin 256, j.val < 16 → bitOr .u8 224 (j.val : Int) = 224 + (j.val : Int) := by decide +kernel
theorem head4_all : ∀ j : Fin 256, j.val < 8 → bitOr .u8 240 (j.val : Int) = 240 + (j.val : Int) := by decide +kernel
theorem bit_tail (m : Int) : bitOr .u8 128 (bitAnd .u8 (IntKind.u8.wrap m) 63) = 128 + m % 64 := by
  rw [u8_wrap]
  obtain ⟨j, hj⟩ := bv_of (m := m % 256) (by omega) (by omega)
  rw [hj, tail_all j, ← hj]
  omega
theorem bit_head2 {m : Int} (h0 : 0 ≤ m) (h : m < 32) : bitOr .u8 192 (IntKind.u8.wrap m) = 192 + m := by
  rw [u8_wrap, show m % 256 = m by omega]
  obtain ⟨j, hj⟩ := bv_of (m := m) (by omega) (by omega)
  rw [hj, head2_all j (by omega)]
theorem bit_head3 {m : Int} (h0 : 0 ≤ m) (h : m < 16) : bitOr .u8 224 (IntKind.u8.wrap m) = 224 + m := by
  rw [u8_wrap, show m % 256 = m by omega]
  obtain ⟨j, hj⟩ := bv_of (m := m) (by omega) (by omega)
  rw [hj, head3_all j (by omega)]
theorem bit_head4 {m : Int} (h0 : 0 ≤ m) (h : m < 8) : bitOr .u8 240 (IntKind.u8.wrap m) = 240 + m := by
  rw [u8_wrap, show m % 256 = m by omega]
  obtain ⟨j, hj⟩ := bv_of (m := m) (by omega) (by omega)
  rw [hj, head4_all j (by omega)]
theorem bytes_nr (l : List UInt8) : nrL (l.map byteV) := by
  induction l with
  | nil => trivial
  | cons x l ih => exact ⟨trivial, ih⟩
theorem tl_fit {m : Int} (h : 0 ≤ m ∧ m < 256) : bitOr .u8 128 (bitAnd .u8 m 63) = 128 + m % 64 := by
  have := bit_tail m
  rwa [u8_wrap, show m % 256 = m by omega] at this
theorem hd2 {m : Int} (h : 0 ≤ m ∧ m < 32) : bitOr .u8 192 m = 192 + m := by
  have := bit_head2 h.1 h.2
  rwa [u8_wrap, show m % 256 = m by omega] at this
theorem hd3 {m : Int} (h : 0 ≤ m ∧ m < 16) : bitOr .u8 224 m = 224 + m := by
  have := bit_head3 h.1 h.2
  rwa [u8_wrap, show m % 256 = m by omega] at this
theorem hd4 {m : Int} (h : 0 ≤ m ∧ m < 8) : bitOr .u8 240 m = 240 + m := by
  have := bit_head4 h.1 h.2
  rwa [u8_wrap, show m % 256 = m by omega] at this
theorem by_ub {m : Int} (h : 0 ≤ m ∧ m < 256) : byteV (ub m) = .int .u8 m := by
  unfold byteV
  rw [ub_val h.1 h.2]
theorem fin_bytes (bs ws : List UInt8) (L : List V) (hL : L = ws.map byteV) : killL 2 (killL 0 (List.take bs.length (List.drop 0 (bs.map byteV)) ++ L)) = (bs ++ ws).map byteV := by
  subst hL
  rw [List.drop_zero, List.take_of_length_le (by simp), ← List.map_append, kill_nrL _ (bytes_nr _), kill_nrL _ (bytes_nr _)]
set_option maxHeartbeats 8000000 in
theorem h_app2 (n : Int) (h0 : 128 ≤ n) (hl : letB n = true) (bs : List UInt8) (hb : bs.length ≤ 140737488351232) : HFn Tryd.prog 84 [.sl 0 0 bs.length, .int .i32 n] [.row 1 (bs.map byteV)] []
    (fun r o => r = .sl 0 0 (bs ++ runeB n).length ∧ o = [.row 1 ((bs ++ runeB n).map byteV)]) := by
  have hbm : (bs.map byteV).length = bs.length := by simp
  have hr : 0 ≤ n ∧ n ≤ 1114111 ∧ (n < 55296 ∨ 57343 < n) := by unfold letB at hl; exact of_decide_eq_true hl
  have s6 : n.fdiv (2 ^ min (Int.toNat 6) IntKind.i32.bits) = n / 64 := Int.fdiv_eq_ediv_of_nonneg _ (by decide)
  have s12 : n.fdiv (2 ^ min (Int.toNat 12) IntKind.i32.bits) = n / 4096 := Int.fdiv_eq_ediv_of_nonneg _ (by decide)
  have s18 : n.fdiv (2 ^ min (Int.toNat 18) IntKind.i32.bits) = n / 262144 := Int.fdiv_eq_ediv_of_nonneg _ (by decide)
  refine hfnE (T := Tryd.tt) Tryd.func84 rfl tt_all follows_all ?_ ?_ fun C vs hC hE => ?_
  · kernel_rfl
  · exact Nat.le_of_ble_eq_true (by kernel_rfl)
  by_cases h1 : n < 2048
  · by_cases c : n < 256
    · conv => whnf
      repeat' (first | (refine brd_t (by first | assumption | omega) ?_; conv => whnf) | (refine brd_f (by first | assumption | omega) ?_; conv => whnf) | (refine ask (by first | assumption | omega) ?_; conv => whnf) | (refine fit64 (by omega) ?_; conv => whnf) | (refine fit (by simp only [kmin, kmax]; omega) ?_; conv => whnf) | (refine br_t (by assumption) ?_; conv => whnf) | (refine br_f (by assumption) ?_; conv => whnf) | (refine get_of (by assumption) ?_; conv => whnf) | (refine get_map (by assumption) ?_; conv => whnf) | (refine fit8 (by omega) ?_; conv => whnf) | (refine fit_not (by right; show (255 : Int) < _; omega) ?_; conv => whnf) | (refine ask ⟨?_, ?_, ?_⟩ ?_; omega; (show bs.length + 2 ≤ 9223372036854775807; omega); (show (bs.length + 2) * 1 ≤ 140737488355328; omega); conv => whnf) | (refine ask (Nat.le_refl 2) ?_; conv => whnf) | (refine draw_lex hE ?_ ?_; decide +kernel; conv => whnf) | (refine brd (fun h => ?_) (fun h => ?_) <;> conv => whnf) | (refine br (fun h => ?_) (fun h => ?_) <;> conv => whnf) | (refine ret_now hE ?_; conv => whnf) | (intro hlen; conv => whnf) | (refine seg_here ?_; conv => whnf) | (refine both ?_ ?_ <;> conv => whnf))
      all_goals (
        refine hret_up (up_drop 2 (up_here (hret_now hE ?_)))
        conv => whnf
        have hR : runeB n = [ub (192 + n / 64), ub (128 + n % 64)] := by unfold runeB; rw [if_neg (by omega), if_pos h1]
        refine ⟨rfl, rfl, ?_, ?_⟩
        · rw [hR, List.length_append]; rfl
        · refine congrArg (fun x => [Ob.row 1 x]) (fin_bytes bs (runeB n) _ ?_)
          rw [hR]
          simp only [List.map_cons, List.map_nil]
          rw [by_ub (m := 192 + n / 64) (by omega), by_ub (m := 128 + n % 64) (by omega)]
          show [V.int .u8 _, V.int .u8 _] = _
          simp only [s6, s12, s18]
          rw [hd2 (m := n / 64) (by omega), tl_fit (m := n) (by omega)])
    · conv => whnf
      repeat' (first | (refine brd_t (by first | assumption | omega) ?_; conv => whnf) | (refine brd_f (by first | assumption | omega) ?_; conv => whnf) | (refine ask (by first | assumption | omega) ?_; conv => whnf) | (refine fit64 (by omega) ?_; conv => whnf) | (refine fit (by simp only [kmin, kmax]; omega) ?_; conv => whnf) | (refine br_t (by assumption) ?_; conv => whnf) | (refine br_f (by assumption) ?_; conv => whnf) | (refine get_of (by assumption) ?_; conv => whnf) | (refine get_map (by assumption) ?_; conv => whnf) | (refine fit8 (by omega) ?_; conv => whnf) | (refine fit_not (by right; show (255 : Int) < _; omega) ?_; conv => whnf) | (refine ask ⟨?_, ?_, ?_⟩ ?_; omega; (show bs.length + 2 ≤ 9223372036854775807; omega); (show (bs.length + 2) * 1 ≤ 140737488355328; omega); conv => whnf) | (refine ask (Nat.le_refl 2) ?_; conv => whnf) | (refine draw_lex hE ?_ ?_; decide +kernel; conv => whnf) | (refine brd (fun h => ?_) (fun h => ?_) <;> conv => whnf) | (refine br (fun h => ?_) (fun h => ?_) <;> conv => whnf) | (refine ret_now hE ?_; conv => whnf) | (intro hlen; conv => whnf) | (refine seg_here ?_; conv => whnf) | (refine both ?_ ?_ <;> conv => whnf))
      all_goals (
        refine hret_up (up_drop 2 (up_here (hret_now hE ?_)))
        conv => whnf
        have hR : runeB n = [ub (192 + n / 64), ub (128 + n % 64)] := by unfold runeB; rw [if_neg (by omega), if_pos h1]
        refine ⟨rfl, rfl, ?_, ?_⟩
        · rw [hR, List.length_append]; rfl
        · refine congrArg (fun x => [Ob.row 1 x]) (fin_bytes bs (runeB n) _ ?_)
          rw [hR]
          simp only [List.map_cons, List.map_nil]
          rw [by_ub (m := 192 + n / 64) (by omega), by_ub (m := 128 + n % 64) (by omega)]
          show [V.int .u8 _, V.int .u8 _] = _
          simp only [s6, s12, s18]
          rw [hd2 (m := n / 64) (by omega), bit_tail n])
  by_cases h2 : n < 65536
  · by_cases c : n < 16384
    · conv => whnf
      repeat' (first | (refine brd_t (by first | assumption | omega) ?_; conv => whnf) | (refine brd_f (by first | assumption | omega) ?_; conv => whnf) | (refine ask (by first | assumption | omega) ?_; conv => whnf) | (refine fit64 (by omega) ?_; conv => whnf) | (refine fit (by simp only [kmin, kmax]; omega) ?_; conv => whnf) | (refine br_t (by assumption) ?_; conv => whnf) | (refine br_f (by assumption) ?_; conv => whnf) | (refine get_of (by assumption) ?_; conv => whnf) | (refine get_map (by assumption) ?_; conv => whnf) | (refine fit8 (by omega) ?_; conv => whnf) | (refine fit_not (by right; show (255 : Int) < _; omega) ?_; conv => whnf) | (refine ask ⟨?_, ?_, ?_⟩ ?_; omega; (show bs.length + 3 ≤ 9223372036854775807; omega); (show (bs.length + 3) * 1 ≤ 140737488355328; omega); conv => whnf) | (refine ask (Nat.le_refl 3) ?_; conv => whnf) | (refine draw_lex hE ?_ ?_; decide +kernel; conv => whnf) | (refine brd (fun h => ?_) (fun h => ?_) <;> conv => whnf) | (refine br (fun h => ?_) (fun h => ?_) <;> conv => whnf) | (refine ret_now hE ?_; conv => whnf) | (intro hlen; conv => whnf) | (refine seg_here ?_; conv => whnf) | (refine both ?_ ?_ <;> conv => whnf))
      all_goals (
        refine hret_up (up_drop 2 (up_here (hret_now hE ?_)))
        conv => whnf
        have hR : runeB n = [ub (224 + n / 4096), ub (128 + n / 64 % 64), ub (128 + n % 64)] := by unfold runeB; rw [if_neg (by omega), if_neg h1, if_pos h2]
        refine ⟨rfl, rfl, ?_, ?_⟩
        · rw [hR, List.length_append]; rfl
        · refine congrArg (fun x => [Ob.row 1 x]) (fin_bytes bs (runeB n) _ ?_)
          rw [hR]
          simp only [List.map_cons, List.map_nil]
          rw [by_ub (m := 224 + n / 4096) (by omega), by_ub (m := 128 + n / 64 % 64) (by omega), by_ub (m := 128 + n % 64) (by omega)]
          show [V.int .u8 _, V.int .u8 _, V.int .u8 _] = _
          simp only [s6, s12, s18]
          rw [hd3 (m := n / 4096) (by omega), tl_fit (m := n / 64) (by omega), bit_tail n])
    · conv => whnf
      repeat' (first | (refine brd_t (by first | assumption | omega) ?_; conv => whnf) | (refine brd_f (by first | assumption | omega) ?_; conv => whnf) | (refine ask (by first | assumption | omega) ?_; conv => whnf) | (refine fit64 (by omega) ?_; conv => whnf) | (refine fit (by simp only [kmin, kmax]; omega) ?_; conv => whnf) | (refine br_t (by assumption) ?_; conv => whnf) | (refine br_f (by assumption) ?_; conv => whnf) | (refine get_of (by assumption) ?_; conv => whnf) | (refine get_map (by assumption) ?_; conv => whnf) | (refine fit8 (by omega) ?_; conv => whnf) | (refine fit_not (by right; show (255 : Int) < _; omega) ?_; conv => whnf) | (refine ask ⟨?_, ?_, ?_⟩ ?_; omega; (show bs.length + 3 ≤ 9223372036854775807; omega); (show (bs.length + 3) * 1 ≤ 140737488355328; omega); conv => whnf) | (refine ask (Nat.le_refl 3) ?_; conv => whnf) | (refine draw_lex hE ?_ ?_; decide +kernel; conv => whnf) | (refine brd (fun h => ?_) (fun h => ?_) <;> conv => whnf) | (refine br (fun h => ?_) (fun h => ?_) <;> conv => whnf) | (refine ret_now hE ?_; conv => whnf) | (intro hlen; conv => whnf) | (refine seg_here ?_; conv => whnf) | (refine both ?_ ?_ <;> conv => whnf))
      all_goals (
        refine hret_up (up_drop 2 (up_here (hret_now hE ?_)))
        conv => whnf
        have hR : runeB n = [ub (224 + n / 4096), ub (128 + n / 64 % 64), ub (128 + n % 64)] := by unfold runeB; rw [if_neg (by omega), if_neg h1, if_pos h2]
        refine ⟨rfl, rfl, ?_, ?_⟩
        · rw [hR, List.length_append]; rfl
        · refine congrArg (fun x => [Ob.row 1 x]) (fin_bytes bs (runeB n) _ ?_)
          rw [hR]
          simp only [List.map_cons, List.map_nil]
          rw [by_ub (m := 224 + n / 4096) (by omega), by_ub (m := 128 + n / 64 % 64) (by omega), by_ub (m := 128 + n % 64) (by omega)]
          show [V.int .u8 _, V.int .u8 _, V.int .u8 _] = _
          simp only [s6, s12, s18]
          rw [hd3 (m := n / 4096) (by omega), bit_tail (n / 64), bit_tail n])
  · by_cases c : n < 1048576
    · conv => whnf
      repeat' (first | (refine brd_t (by first | assumption | omega) ?_; conv => whnf) | (refine brd_f (by first | assumption | omega) ?_; conv => whnf) | (refine ask (by first | assumption | omega) ?_; conv => whnf) | (refine fit64 (by omega) ?_; conv => whnf) | (refine fit (by simp only [kmin, kmax]; omega) ?_; conv => whnf) | (refine br_t (by assumption) ?_; conv => whnf) | (refine br_f (by assumption) ?_; conv => whnf) | (refine get_of (by assumption) ?_; conv => whnf) | (refine get_map (by assumption) ?_; conv => whnf) | (refine fit8 (by omega) ?_; conv => whnf) | (refine fit_not (by right; show (255 : Int) < _; omega) ?_; conv => whnf) | (refine ask ⟨?_, ?_, ?_⟩ ?_; omega; (show bs.length + 4 ≤ 9223372036854775807; omega); (show (bs.length + 4) * 1 ≤ 140737488355328; omega); conv => whnf) | (refine ask (Nat.le_refl 4) ?_; conv => whnf) | (refine draw_lex hE ?_ ?_; decide +kernel; conv => whnf) | (refine brd (fun h => ?_) (fun h => ?_) <;> conv => whnf) | (refine br (fun h => ?_) (fun h => ?_) <;> conv => whnf) | (refine ret_now hE ?_; conv => whnf) | (intro hlen; conv => whnf) | (refine seg_here ?_; conv => whnf) | (refine both ?_ ?_ <;> conv => whnf))
      all_goals (
        refine hret_up (up_drop 2 (up_here (hret_now hE ?_)))
        conv => whnf
        have hR : runeB n = [ub (240 + n / 262144), ub (128 + n / 4096 % 64), ub (128 + n / 64 % 64), ub (128 + n % 64)] := by unfold runeB; rw [if_neg (by omega), if_neg h1, if_neg h2]
        refine ⟨rfl, rfl, ?_, ?_⟩
        · rw [hR, List.length_append]; rfl
        · refine congrArg (fun x => [Ob.row 1 x]) (fin_bytes bs (runeB n) _ ?_)
          rw [hR]
          simp only [List.map_cons, List.map_nil]
          rw [by_ub (m := 240 + n / 262144) (by omega), by_ub (m := 128 + n / 4096 % 64) (by omega), by_ub (m := 128 + n / 64 % 64) (by omega), by_ub (m := 128 + n % 64) (by omega)]
          show [V.int .u8 _, V.int .u8 _, V.int .u8 _, V.int .u8 _] = _
          simp only [s6, s12, s18]
          rw [hd4 (m := n / 262144) (by omega), tl_fit (m := n / 4096) (by omega), bit_tail (n / 64), bit_tail n])
    · conv => whnf
      repeat' (first | (refine brd_t (by first | assumption | omega) ?_; conv => whnf) | (refine brd_f (by first | assumption | omega) ?_; conv => whnf) | (refine ask (by first | assumption | omega) ?_; conv => whnf) | (refine fit64 (by omega) ?_; conv => whnf) | (refine fit (by simp only [kmin, kmax]; omega) ?_; conv => whnf) | (refine br_t (by assumption) ?_; conv => whnf) | (refine br_f (by assumption) ?_; conv => whnf) | (refine get_of (by assumption) ?_; conv => whnf) | (refine get_map (by assumption) ?_; conv => whnf) | (refine fit8 (by omega) ?_; conv => whnf) | (refine fit_not (by right; show (255 : Int) < _; omega) ?_; conv => whnf) | (refine ask ⟨?_, ?_, ?_⟩ ?_; omega; (show bs.length + 4 ≤ 9223372036854775807; omega); (show (bs.length + 4) * 1 ≤ 140737488355328; omega); conv => whnf) | (refine ask (Nat.le_refl 4) ?_; conv => whnf) | (refine draw_lex hE ?_ ?_; decide +kernel; conv => whnf) | (refine brd (fun h => ?_) (fun h => ?_) <;> conv => whnf) | (refine br (fun h => ?_) (fun h => ?_) <;> conv => whnf) | (refine ret_now hE ?_; conv => whnf) | (intro hlen; conv => whnf) | (refine seg_here ?_; conv => whnf) | (refine both ?_ ?_ <;> conv => whnf))
      all_goals (
        refine hret_up (up_drop 2 (up_here (hret_now hE ?_)))
        conv => whnf
        have hR : runeB n = [ub (240 + n / 262144), ub (128 + n / 4096 % 64), ub (128 + n / 64 % 64), ub (128 + n % 64)] := by unfold runeB; rw [if_neg (by omega), if_neg h1, if_neg h2]
        refine ⟨rfl, rfl, ?_, ?_⟩
        · rw [hR, List.length_append]; rfl
        · refine congrArg (fun x => [Ob.row 1 x]) (fin_bytes bs (runeB n) _ ?_)
          rw [hR]
          simp only [List.map_cons, List.map_nil]
          rw [by_ub (m := 240 + n / 262144) (by omega), by_ub (m := 128 + n / 4096 % 64) (by omega), by_ub (m := 128 + n / 64 % 64) (by omega), by_ub (m := 128 + n % 64) (by omega)]
          show [V.int .u8 _, V.int .u8 _, V.int .u8 _, V.int .u8 _] = _
          simp only [s6, s12, s18]
          rw [hd4 (m := n / 262144) (by omega), bit_tail (n / 4096), bit_tail (n / 64), bit_tail n])
/-- A call that takes an own slice and gives it back, longer. -/
theorem call_own {C : Ctx} {P : Program} {f : FuncId} {z n0 m : Nat} {els els' xs0 xs1 : List V} {fop : Operand} {args : List Operand} {K : V → ES → Prop} {σ : ES} (h : HFn P f (.sl 0 0 n0 :: xs0) [.row z els] [] (fun r o => r = .sl 0 0 m ∧ o = [.row z els'])) (hC : C.P = P) (hb : hasBody P f = true)
    (p : Nat) (he : evalC σ fop args = some (f, .sl p 0 n0 :: xs1)) (hx : rnL 1 (fun _ => p) xs0 xs1) (hrow : σ.heap[p]? = some (some (.row z els))) (hn : nrL els) (hn' : nrL els')
    (hK : killUE p σ.u fun u => fH ((killH p σ.heap).set p (some (.row z els'))) fun h => K (.sl p 0 m) ⟨σ.n, u, h⟩) : CallN C fop args f (.sl p 0 n0 :: xs1) K σ := by
  rw [killUE_eq, fH_eq] at hK
  refine call_h h hC hb he (fun _ => p) ?_ ?_ ?_ [p] ?_ ?_ ?_
  · intro i j hi hj _
    simp at hi hj
    omega
  · simp only [rnL]
    exact ⟨.sl p 0 n0, xs1, rfl, by simp [rnV], hx⟩
  · intro j o ho
    match j, ho with
    | 0, ho =>
      simp at ho
      subst ho
      exact ⟨_, hrow, els, rfl, rnL_self hn⟩
    | n + 1, ho => simp at ho
  · intro j _ hn
    exact absurd (by simp) hn
  · intro id hid
    simp at hid
    exact ⟨0, by simp, hid.symm⟩
  · rintro r0 objs' ⟨rfl, rfl⟩ _
    refine ⟨.sl p 0 m, [.row z els'], by simp [rnV], rfl, ?_, hK⟩
    intro j o o' ho ho'
    match j, ho, ho' with
    | 0, ho, ho' =>
      simp at ho ho'
      subst ho; subst ho'
      exact ⟨els', rfl, rnL_self hn'⟩
    | n + 1, ho, _ => simp at ho
theorem bytes1 (bs : List UInt8) (n : Int) (h : 0 ≤ n ∧ n < 128) : (bs ++ runeB n) = bs ++ [ub n] := by unfold runeB; rw [if_pos h.2]
set_option maxHeartbeats 8000000 in
theorem h_app (n : Int) (hl : letB n = true) (bs : List UInt8) (hb : bs.length ≤ 140737488351232) : HFn Tryd.prog 63 [.sl 0 0 bs.length, .int .i32 n] [.row 1 (bs.map byteV)] []
    (fun r o => r = .sl 0 0 (bs ++ runeB n).length ∧ o = [.row 1 ((bs ++ runeB n).map byteV)]) := by
  have hbm : (bs.map byteV).length = bs.length := by simp
  have hr : 0 ≤ n ∧ n ≤ 1114111 ∧ (n < 55296 ∨ 57343 < n) := by unfold letB at hl; exact of_decide_eq_true hl
  refine hfnE (T := Tryd.tt) Tryd.func63 rfl tt_all follows_all ?_ ?_ fun C vs hC hE => ?_
  · kernel_rfl
  · exact Nat.le_of_ble_eq_true (by kernel_rfl)
  by_cases h1 : n < 128
  · conv => whnf
    repeat' (first | (refine brd_t (by first | assumption | omega) ?_; conv => whnf) | (refine brd_f (by first | assumption | omega) ?_; conv => whnf) | (refine ask (by first | assumption | omega) ?_; conv => whnf) | (refine fit64 (by omega) ?_; conv => whnf) | (refine fit (by simp only [kmin, kmax]; omega) ?_; conv => whnf) | (refine br_t (by assumption) ?_; conv => whnf) | (refine br_f (by assumption) ?_; conv => whnf) | (refine get_of (by assumption) ?_; conv => whnf) | (refine get_map (by assumption) ?_; conv => whnf) | (refine fit8 (by omega) ?_; conv => whnf) | (refine ask ⟨?_, ?_, ?_⟩ ?_; omega; (show bs.length + 1 ≤ 9223372036854775807; omega); (show (bs.length + 1) * 1 ≤ 140737488355328; omega); conv => whnf) | (refine ask (Nat.le_refl 1) ?_; conv => whnf) | (refine draw_lex hE ?_ ?_; decide +kernel; conv => whnf) | (refine brd (fun h => ?_) (fun h => ?_) <;> conv => whnf) | (refine br (fun h => ?_) (fun h => ?_) <;> conv => whnf) | (refine ret_now hE ?_; conv => whnf) | (intro hlen; conv => whnf) | (refine seg_here ?_; conv => whnf) | (refine both ?_ ?_ <;> conv => whnf))
    refine hret_up (up_drop 2 (up_here (hret_now hE ?_)))
    conv => whnf
    have hR : runeB n = [ub n] := by unfold runeB; rw [if_pos h1]
    refine ⟨rfl, rfl, ?_, ?_⟩
    · rw [hR, List.length_append]; rfl
    · refine congrArg (fun x => [Ob.row 1 x]) (fin_bytes bs (runeB n) _ ?_)
      rw [hR]
      simp only [List.map_cons, List.map_nil]
      rw [by_ub (m := n) (by omega)]
      rfl
  · have h2 := h_app2 n (by omega) hl bs hb
    conv => whnf
    repeat' (first | (refine brd_t (by first | assumption | omega) ?_; conv => whnf) | (refine brd_f (by first | assumption | omega) ?_; conv => whnf) | (refine ask (by first | assumption | omega) ?_; conv => whnf) | (refine fit64 (by omega) ?_; conv => whnf) | (refine fit (by simp only [kmin, kmax]; omega) ?_; conv => whnf) | (refine br_t (by assumption) ?_; conv => whnf) | (refine br_f (by assumption) ?_; conv => whnf) | (refine get_of (by assumption) ?_; conv => whnf) | (refine get_map (by assumption) ?_; conv => whnf) | (refine call_own h2 hC hasBody_84 0 rfl (by simp [rnL, rnV]) rfl (bytes_nr _) (bytes_nr _) ?_; conv => whnf) | (refine draw_lex hE ?_ ?_; decide +kernel; conv => whnf) | (refine brd (fun h => ?_) (fun h => ?_) <;> conv => whnf) | (refine br (fun h => ?_) (fun h => ?_) <;> conv => whnf) | (refine ret_now hE ?_; conv => whnf) | (intro hlen; conv => whnf) | (refine seg_here ?_; conv => whnf) | (refine both ?_ ?_ <;> conv => whnf))
    refine hret_now hE ?_
    conv => whnf
    exact ⟨rfl, rfl, rfl, rfl⟩
end Go.Proofs.YtaeeceabnkgnnaaDoor

/-! utf.Text and the document's UtfText, walked; the law UtfTexts. No conditions. -/
namespace Go.Proofs.YtaeeceabnkgnnaaDoor
open Go.RowKit

def flatR (l : List Int) : List UInt8 := l.flatMap runeB
theorem runeB_len (n : Int) : (runeB n).length ≤ 4 := by unfold runeB; (repeat' split) <;> simp
theorem flatR_step {l : List Int} {k : Nat} {x : Int} (hx : l[k]? = some x) : flatR (l.take (k + 1)) = flatR (l.take k) ++ runeB x := by
  unfold flatR
  rw [List.take_add_one, hx, List.flatMap_append]
  simp
def utfR (l : List Int) : V := if l.all letB = true then (if 600 < (flatR l).length then .tup [.str [], .int .i64 1] else .tup [.str (flatR l), .int .i64 0]) else .tup [.str [], .int .i64 2]
theorem utfR_bad {l : List Int} {k : Nat} {x : Int} (hx : l[k]? = some x) (h : letB x = false) : utfR l = .tup [.str [], .int .i64 2] := by
  unfold utfR
  rw [if_neg]
  intro hh
  have := List.all_eq_true.1 hh x (List.mem_of_getElem? hx)
  rw [h] at this
  cases this
theorem all_of {l : List Int} {k : Nat} (hk : l.length ≤ k) (h : ∀ j < k, ∀ x, l[j]? = some x → letB x = true) : l.all letB = true := by
  rw [List.all_eq_true]
  intro x hx
  obtain ⟨j, hj⟩ := List.mem_iff_getElem?.1 hx
  exact h j (by have := (List.getElem?_eq_some_iff.1 hj).1; omega) x hj
/-! ### The document's answer -/
theorem low_1 (n : Int) (hn : 0 ≤ n) (hm : n ≤ 1114111) : Fn1 Tryd.prog 66 [.int .i64 1, .rp [.int .i64 n]] (fun r => r = .int .u8 (128 + n / 1 % 64)) := by
  have e1 : n.tdiv 1 = n / 1 := Int.tdiv_eq_ediv_of_nonneg hn
  have e2 : (n.tdiv 1).tmod 64 = n / 1 % 64 := by rw [e1]; exact Int.tmod_eq_emod_of_nonneg (by omega)
  refine fn1E (T := Tryd.tt) Tryd.func66 rfl tt_all follows_all ?_ ?_ fun C hC hE => ?_
  · kernel_rfl
  · exact Nat.le_of_ble_eq_true (by kernel_rfl)
  conv => whnf
  repeat' (first | (refine brd_t (by first | assumption | omega) ?_; conv => whnf) | (refine brd_f (by first | assumption | omega) ?_; conv => whnf) | (refine ask (by first | assumption | omega) ?_; conv => whnf) | (refine fit64 (by omega) ?_; conv => whnf) | (refine fit (by simp only [kmin, kmax]; omega) ?_; conv => whnf) | (refine br_t (by assumption) ?_; conv => whnf) | (refine br_f (by assumption) ?_; conv => whnf) | (refine get_of (by assumption) ?_; conv => whnf) | (refine get_map (by assumption) ?_; conv => whnf) | (refine fit8 (by omega) ?_; conv => whnf) | (refine draw_lex hE ?_ ?_; decide +kernel; conv => whnf) | (refine brd (fun h => ?_) (fun h => ?_) <;> conv => whnf) | (refine br (fun h => ?_) (fun h => ?_) <;> conv => whnf) | (refine ret_now hE ?_; conv => whnf) | (intro hlen; conv => whnf) | (refine seg_here ?_; conv => whnf) | (refine both ?_ ?_ <;> conv => whnf))
  exact ⟨rfl, by rw [e2]⟩
theorem low_64 (n : Int) (hn : 0 ≤ n) (hm : n ≤ 1114111) : Fn1 Tryd.prog 66 [.int .i64 64, .rp [.int .i64 n]] (fun r => r = .int .u8 (128 + n / 64 % 64)) := by
  have e1 : n.tdiv 64 = n / 64 := Int.tdiv_eq_ediv_of_nonneg hn
  have e2 : (n.tdiv 64).tmod 64 = n / 64 % 64 := by rw [e1]; exact Int.tmod_eq_emod_of_nonneg (by omega)
  refine fn1E (T := Tryd.tt) Tryd.func66 rfl tt_all follows_all ?_ ?_ fun C hC hE => ?_
  · kernel_rfl
  · exact Nat.le_of_ble_eq_true (by kernel_rfl)
  conv => whnf
  repeat' (first | (refine brd_t (by first | assumption | omega) ?_; conv => whnf) | (refine brd_f (by first | assumption | omega) ?_; conv => whnf) | (refine ask (by first | assumption | omega) ?_; conv => whnf) | (refine fit64 (by omega) ?_; conv => whnf) | (refine fit (by simp only [kmin, kmax]; omega) ?_; conv => whnf) | (refine br_t (by assumption) ?_; conv => whnf) | (refine br_f (by assumption) ?_; conv => whnf) | (refine get_of (by assumption) ?_; conv => whnf) | (refine get_map (by assumption) ?_; conv => whnf) | (refine fit8 (by omega) ?_; conv => whnf) | (refine draw_lex hE ?_ ?_; decide +kernel; conv => whnf) | (refine brd (fun h => ?_) (fun h => ?_) <;> conv => whnf) | (refine br (fun h => ?_) (fun h => ?_) <;> conv => whnf) | (refine ret_now hE ?_; conv => whnf) | (intro hlen; conv => whnf) | (refine seg_here ?_; conv => whnf) | (refine both ?_ ?_ <;> conv => whnf))
  exact ⟨rfl, by rw [e2]⟩
theorem low_4096 (n : Int) (hn : 0 ≤ n) (hm : n ≤ 1114111) : Fn1 Tryd.prog 66 [.int .i64 4096, .rp [.int .i64 n]] (fun r => r = .int .u8 (128 + n / 4096 % 64)) := by
  have e1 : n.tdiv 4096 = n / 4096 := Int.tdiv_eq_ediv_of_nonneg hn
  have e2 : (n.tdiv 4096).tmod 64 = n / 4096 % 64 := by rw [e1]; exact Int.tmod_eq_emod_of_nonneg (by omega)
  refine fn1E (T := Tryd.tt) Tryd.func66 rfl tt_all follows_all ?_ ?_ fun C hC hE => ?_
  · kernel_rfl
  · exact Nat.le_of_ble_eq_true (by kernel_rfl)
  conv => whnf
  repeat' (first | (refine brd_t (by first | assumption | omega) ?_; conv => whnf) | (refine brd_f (by first | assumption | omega) ?_; conv => whnf) | (refine ask (by first | assumption | omega) ?_; conv => whnf) | (refine fit64 (by omega) ?_; conv => whnf) | (refine fit (by simp only [kmin, kmax]; omega) ?_; conv => whnf) | (refine br_t (by assumption) ?_; conv => whnf) | (refine br_f (by assumption) ?_; conv => whnf) | (refine get_of (by assumption) ?_; conv => whnf) | (refine get_map (by assumption) ?_; conv => whnf) | (refine fit8 (by omega) ?_; conv => whnf) | (refine draw_lex hE ?_ ?_; decide +kernel; conv => whnf) | (refine brd (fun h => ?_) (fun h => ?_) <;> conv => whnf) | (refine br (fun h => ?_) (fun h => ?_) <;> conv => whnf) | (refine ret_now hE ?_; conv => whnf) | (intro hlen; conv => whnf) | (refine seg_here ?_; conv => whnf) | (refine both ?_ ?_ <;> conv => whnf))
  exact ⟨rfl, by rw [e2]⟩
set_option maxHeartbeats 8000000 in
theorem utf_bytes (n : Int) (hl : letB n = true) : Fn1 Tryd.prog 39 [.int .i64 n] (fun r => r = .lst ((runeB n).map byteV)) := by
  have hr : 0 ≤ n ∧ n ≤ 1114111 ∧ (n < 55296 ∨ 57343 < n) := by unfold letB at hl; exact of_decide_eq_true hl
  have l1 := low_1 n (by omega) (by omega)
  have l2 := low_64 n (by omega) (by omega)
  have l3 := low_4096 n (by omega) (by omega)
  have e1 : n.tdiv 64 = n / 64 := Int.tdiv_eq_ediv_of_nonneg (by omega)
  have e2 : n.tdiv 4096 = n / 4096 := Int.tdiv_eq_ediv_of_nonneg (by omega)
  have e3 : n.tdiv 262144 = n / 262144 := Int.tdiv_eq_ediv_of_nonneg (by omega)
  by_cases h1 : n < 128
  · refine fn1E (T := Tryd.tt) Tryd.func39 rfl tt_all follows_all ?_ ?_ fun C hC hE => ?_
    · kernel_rfl
    · exact Nat.le_of_ble_eq_true (by kernel_rfl)
    conv => whnf
    repeat' (first | (refine brd_t (by first | assumption | omega) ?_; conv => whnf) | (refine brd_f (by first | assumption | omega) ?_; conv => whnf) | (refine ask (by first | assumption | omega) ?_; conv => whnf) | (refine fit64 (by omega) ?_; conv => whnf) | (refine fit (by simp only [kmin, kmax]; omega) ?_; conv => whnf) | (refine br_t (by assumption) ?_; conv => whnf) | (refine br_f (by assumption) ?_; conv => whnf) | (refine get_of (by assumption) ?_; conv => whnf) | (refine get_map (by assumption) ?_; conv => whnf) | (refine fit8 (by omega) ?_; conv => whnf) | (refine ret_up (up_frzK 1 2 [] rfl (nrB_nrL _ rfl) rfl rfl rfl (up_here ?_))) | (refine callq_lend 0 l1 hC hasBody_66 rfl ⟨trivial, trivial⟩ rfl rfl rfl rfl ?_; conv => whnf) | (refine draw_lex hE ?_ ?_; decide +kernel; conv => whnf) | (refine draw_any hE [⟨1, [(0, none), (1, none), (2, none), (3, none), (4, none), (5, none), (6, some 0), (7, none)], none, [], [[]]⟩] ?_ ?_; decide +kernel; conv => whnf) | (refine draw_any hE [⟨1, [(0, none), (1, none), (2, none), (3, none), (4, none), (5, none), (6, none), (7, none), (8, some 0), (9, none)], none, [], [[]]⟩] ?_ ?_; decide +kernel; conv => whnf) | (refine draw_any hE [⟨1, [(0, none), (1, none), (2, none), (3, none), (4, none), (5, none), (6, none), (7, none), (8, none), (9, none), (10, some 0), (11, none)], none, [], [[]]⟩] ?_ ?_; decide +kernel; conv => whnf) | (refine brd (fun h => ?_) (fun h => ?_) <;> conv => whnf) | (refine br (fun h => ?_) (fun h => ?_) <;> conv => whnf) | (refine ret_now hE ?_; conv => whnf) | (intro hlen; conv => whnf) | (refine seg_here ?_; conv => whnf) | (refine both ?_ ?_ <;> conv => whnf))
    refine ⟨rfl, ?_⟩
    have hR : runeB n = [ub n] := by unfold runeB; rw [if_pos h1]
    rw [hR]
    simp only [List.map_cons, List.map_nil]
    rw [by_ub (m := n) (by omega)]
  by_cases h2 : n < 2048
  · refine fn1E (T := Tryd.tt) Tryd.func39 rfl tt_all follows_all ?_ ?_ fun C hC hE => ?_
    · kernel_rfl
    · exact Nat.le_of_ble_eq_true (by kernel_rfl)
    conv => whnf
    repeat' (first | (refine brd_t (by first | assumption | omega) ?_; conv => whnf) | (refine brd_f (by first | assumption | omega) ?_; conv => whnf) | (refine ask (by first | assumption | omega) ?_; conv => whnf) | (refine fit64 (by omega) ?_; conv => whnf) | (refine fit (by simp only [kmin, kmax]; omega) ?_; conv => whnf) | (refine br_t (by assumption) ?_; conv => whnf) | (refine br_f (by assumption) ?_; conv => whnf) | (refine get_of (by assumption) ?_; conv => whnf) | (refine get_map (by assumption) ?_; conv => whnf) | (refine fit8 (by omega) ?_; conv => whnf) | (refine ret_up (up_frzK 1 2 [] rfl (nrB_nrL _ rfl) rfl rfl rfl (up_here ?_))) | (refine callq_lend 0 l1 hC hasBody_66 rfl ⟨trivial, trivial⟩ rfl rfl rfl rfl ?_; conv => whnf) | (refine draw_lex hE ?_ ?_; decide +kernel; conv => whnf) | (refine draw_any hE [⟨1, [(0, none), (1, none), (2, none), (3, none), (4, none), (5, none), (6, some 0), (7, none)], none, [], [[]]⟩] ?_ ?_; decide +kernel; conv => whnf) | (refine draw_any hE [⟨1, [(0, none), (1, none), (2, none), (3, none), (4, none), (5, none), (6, none), (7, none), (8, some 0), (9, none)], none, [], [[]]⟩] ?_ ?_; decide +kernel; conv => whnf) | (refine draw_any hE [⟨1, [(0, none), (1, none), (2, none), (3, none), (4, none), (5, none), (6, none), (7, none), (8, none), (9, none), (10, some 0), (11, none)], none, [], [[]]⟩] ?_ ?_; decide +kernel; conv => whnf) | (refine brd (fun h => ?_) (fun h => ?_) <;> conv => whnf) | (refine br (fun h => ?_) (fun h => ?_) <;> conv => whnf) | (refine ret_now hE ?_; conv => whnf) | (intro hlen; conv => whnf) | (refine seg_here ?_; conv => whnf) | (refine both ?_ ?_ <;> conv => whnf))
    refine ⟨rfl, ?_⟩
    have hR : runeB n = [ub (192 + n / 64), ub (128 + n % 64)] := by unfold runeB; rw [if_neg h1, if_pos h2]
    rw [hR]
    simp only [List.map_cons, List.map_nil]
    rw [by_ub (m := 192 + n / 64) (by omega), by_ub (m := 128 + n % 64) (by omega)]
    show V.lst [V.int .u8 (192 + n.tdiv 64), V.int .u8 (128 + n / 1 % 64)] = _
    rw [e1, Int.ediv_one]
  by_cases h3 : n < 65536
  · refine fn1E (T := Tryd.tt) Tryd.func39 rfl tt_all follows_all ?_ ?_ fun C hC hE => ?_
    · kernel_rfl
    · exact Nat.le_of_ble_eq_true (by kernel_rfl)
    conv => whnf
    repeat' (first | (refine brd_t (by first | assumption | omega) ?_; conv => whnf) | (refine brd_f (by first | assumption | omega) ?_; conv => whnf) | (refine ask (by first | assumption | omega) ?_; conv => whnf) | (refine fit64 (by omega) ?_; conv => whnf) | (refine fit (by simp only [kmin, kmax]; omega) ?_; conv => whnf) | (refine br_t (by assumption) ?_; conv => whnf) | (refine br_f (by assumption) ?_; conv => whnf) | (refine get_of (by assumption) ?_; conv => whnf) | (refine get_map (by assumption) ?_; conv => whnf) | (refine fit8 (by omega) ?_; conv => whnf) | (refine ret_up (up_frzK 1 2 [] rfl (nrB_nrL _ rfl) rfl rfl rfl (up_here ?_))) | (refine callq_lend 0 l1 hC hasBody_66 rfl ⟨trivial, trivial⟩ rfl rfl rfl rfl ?_; conv => whnf) | (refine callq_lend 0 l2 hC hasBody_66 rfl ⟨trivial, trivial⟩ rfl rfl rfl rfl ?_; conv => whnf) | (refine draw_lex hE ?_ ?_; decide +kernel; conv => whnf) | (refine draw_any hE [⟨1, [(0, none), (1, none), (2, none), (3, none), (4, none), (5, none), (6, some 0), (7, none)], none, [], [[]]⟩] ?_ ?_; decide +kernel; conv => whnf) | (refine draw_any hE [⟨1, [(0, none), (1, none), (2, none), (3, none), (4, none), (5, none), (6, none), (7, none), (8, some 0), (9, none)], none, [], [[]]⟩] ?_ ?_; decide +kernel; conv => whnf) | (refine draw_any hE [⟨1, [(0, none), (1, none), (2, none), (3, none), (4, none), (5, none), (6, none), (7, none), (8, none), (9, none), (10, some 0), (11, none)], none, [], [[]]⟩] ?_ ?_; decide +kernel; conv => whnf) | (refine brd (fun h => ?_) (fun h => ?_) <;> conv => whnf) | (refine br (fun h => ?_) (fun h => ?_) <;> conv => whnf) | (refine ret_now hE ?_; conv => whnf) | (intro hlen; conv => whnf) | (refine seg_here ?_; conv => whnf) | (refine both ?_ ?_ <;> conv => whnf))
    refine ⟨rfl, ?_⟩
    have hR : runeB n = [ub (224 + n / 4096), ub (128 + n / 64 % 64), ub (128 + n % 64)] := by unfold runeB; rw [if_neg h1, if_neg h2, if_pos h3]
    rw [hR]
    simp only [List.map_cons, List.map_nil]
    rw [by_ub (m := 224 + n / 4096) (by omega), by_ub (m := 128 + n / 64 % 64) (by omega), by_ub (m := 128 + n % 64) (by omega)]
    show V.lst [V.int .u8 (224 + n.tdiv 4096), V.int .u8 (128 + n / 64 % 64), V.int .u8 (128 + n / 1 % 64)] = _
    rw [e2, Int.ediv_one]
  · refine fn1E (T := Tryd.tt) Tryd.func39 rfl tt_all follows_all ?_ ?_ fun C hC hE => ?_
    · kernel_rfl
    · exact Nat.le_of_ble_eq_true (by kernel_rfl)
    conv => whnf
    repeat' (first | (refine brd_t (by first | assumption | omega) ?_; conv => whnf) | (refine brd_f (by first | assumption | omega) ?_; conv => whnf) | (refine ask (by first | assumption | omega) ?_; conv => whnf) | (refine fit64 (by omega) ?_; conv => whnf) | (refine fit (by simp only [kmin, kmax]; omega) ?_; conv => whnf) | (refine br_t (by assumption) ?_; conv => whnf) | (refine br_f (by assumption) ?_; conv => whnf) | (refine get_of (by assumption) ?_; conv => whnf) | (refine get_map (by assumption) ?_; conv => whnf) | (refine fit8 (by omega) ?_; conv => whnf) | (refine ret_up (up_frzK 1 2 [] rfl (nrB_nrL _ rfl) rfl rfl rfl (up_here ?_))) | (refine callq_lend 0 l1 hC hasBody_66 rfl ⟨trivial, trivial⟩ rfl rfl rfl rfl ?_; conv => whnf) | (refine callq_lend 0 l2 hC hasBody_66 rfl ⟨trivial, trivial⟩ rfl rfl rfl rfl ?_; conv => whnf) | (refine callq_lend 0 l3 hC hasBody_66 rfl ⟨trivial, trivial⟩ rfl rfl rfl rfl ?_; conv => whnf) | (refine draw_lex hE ?_ ?_; decide +kernel; conv => whnf) | (refine draw_any hE [⟨1, [(0, none), (1, none), (2, none), (3, none), (4, none), (5, none), (6, some 0), (7, none)], none, [], [[]]⟩] ?_ ?_; decide +kernel; conv => whnf) | (refine draw_any hE [⟨1, [(0, none), (1, none), (2, none), (3, none), (4, none), (5, none), (6, none), (7, none), (8, some 0), (9, none)], none, [], [[]]⟩] ?_ ?_; decide +kernel; conv => whnf) | (refine draw_any hE [⟨1, [(0, none), (1, none), (2, none), (3, none), (4, none), (5, none), (6, none), (7, none), (8, none), (9, none), (10, some 0), (11, none)], none, [], [[]]⟩] ?_ ?_; decide +kernel; conv => whnf) | (refine brd (fun h => ?_) (fun h => ?_) <;> conv => whnf) | (refine br (fun h => ?_) (fun h => ?_) <;> conv => whnf) | (refine ret_now hE ?_; conv => whnf) | (intro hlen; conv => whnf) | (refine seg_here ?_; conv => whnf) | (refine both ?_ ?_ <;> conv => whnf))
    refine ⟨rfl, ?_⟩
    have hR : runeB n = [ub (240 + n / 262144), ub (128 + n / 4096 % 64), ub (128 + n / 64 % 64), ub (128 + n % 64)] := by unfold runeB; rw [if_neg h1, if_neg h2, if_neg h3]
    rw [hR]
    simp only [List.map_cons, List.map_nil]
    rw [by_ub (m := 240 + n / 262144) (by omega), by_ub (m := 128 + n / 4096 % 64) (by omega), by_ub (m := 128 + n / 64 % 64) (by omega), by_ub (m := 128 + n % 64) (by omega)]
    show V.lst [V.int .u8 (240 + n.tdiv 262144), V.int .u8 (128 + n / 4096 % 64), V.int .u8 (128 + n / 64 % 64), V.int .u8 (128 + n / 1 % 64)] = _
    rw [e3, Int.ediv_one]
theorem cells_b (x : Int) : ∀ y ∈ (runeB x).map byteV, y.cells.length = 1 := fun y hy => by obtain ⟨q, _, rfl⟩ := List.mem_map.1 hy; rfl
end Go.Proofs.YtaeeceabnkgnnaaDoor
