/- utf.Clean and the document's UtfClean, walked; the law UtfCleans. No conditions. -/
import Derived.Test.YteabokphchpifaaUtfText
import Derived.Test.YteabokphchpifaaUtfLaw
set_option linter.unusedSimpArgs false
set_option linter.unusedVariables false
set_option maxRecDepth 100000
namespace Go.Proofs.Yteabokphchpifaa
open Go.RowKit

theorem letN_letB (n : Int) : letN n = letB n := by
  unfold letN letB
  rw [Bool.eq_iff_iff]; simp; omega
theorem bytes_rune (n : Nat) : bytesN n = runeB (n : Int) := by
  unfold bytesN runeB ub
  by_cases h1 : n < 128
  · rw [if_pos h1, if_pos (by omega)]; simp
  · by_cases h2 : n < 2048
    · rw [if_neg h1, if_pos h2, if_neg (by omega), if_pos (by omega)]
      rw [show (192 + (n : Int) / 64).toNat = 192 + n / 64 by omega, show (128 + (n : Int) % 64).toNat = 128 + n % 64 by omega]
    · by_cases h3 : n < 65536
      · rw [if_neg h1, if_neg h2, if_pos h3, if_neg (by omega), if_neg (by omega), if_pos (by omega)]
        rw [show (224 + (n : Int) / 4096).toNat = 224 + n / 4096 by omega, show (128 + (n : Int) / 64 % 64).toNat = 128 + n / 64 % 64 by omega, show (128 + (n : Int) % 64).toNat = 128 + n % 64 by omega]
      · rw [if_neg h1, if_neg h2, if_neg h3, if_neg (by omega), if_neg (by omega), if_neg (by omega)]
        rw [show (240 + (n : Int) / 262144).toNat = 240 + n / 262144 by omega, show (128 + (n : Int) / 4096 % 64).toNat = 128 + n / 4096 % 64 by omega, show (128 + (n : Int) / 64 % 64).toNat = 128 + n / 64 % 64 by omega, show (128 + (n : Int) % 64).toNat = 128 + n % 64 by omega]
def firstV (t : List UInt8) : V := .tup [.int .i64 (decL t).1, .int .i64 (decL t).2]
set_option maxHeartbeats 8000000 in
theorem utf_first (t : List UInt8) (hne : t ≠ []) : Fn1 Try.prog 40 [.str t] (fun r => r = firstV t) := by
  have h0l : 0 < t.length := List.length_pos_iff.2 hne
  obtain ⟨c0, hc0⟩ : ∃ c, t[0]? = some c := ⟨_, List.getElem?_eq_getElem h0l⟩
  have hA : (c0.toNat : Int) = bt t 0 := by unfold bt; simp [List.getD, hc0]
  have hAlt := bt_lt t 0
  refine fn1E (T := Try.tt) Try.func40 rfl tt_all follows_all ?_ ?_ fun C hC hE => ?_
  · kernel_rfl
  · exact Nat.le_of_ble_eq_true (by kernel_rfl)
  conv => whnf
  repeat' (first | (refine brd_t (by first | assumption | omega) ?_; conv => whnf) | (refine brd_f (by first | assumption | omega) ?_; conv => whnf) | (refine ask (by first | assumption | omega) ?_; conv => whnf) | (refine fit64 (by omega) ?_; conv => whnf) | (refine fit (by simp only [kmin, kmax]; omega) ?_; conv => whnf) | (refine br_t (by assumption) ?_; conv => whnf) | (refine br_f (by assumption) ?_; conv => whnf) | (refine get_of (by assumption) ?_; conv => whnf) | (refine get_map (by assumption) ?_; conv => whnf) | (refine brd (fun h => ?_) (fun h => ?_) <;> conv => whnf) | (refine br (fun h => ?_) (fun h => ?_) <;> conv => whnf) | (refine ret_now hE ?_; conv => whnf) | (intro hlen; conv => whnf))
  refine loopE (fun w : Nat => ⟨55, [(0, .str t), (4, .int .i64 w)], []⟩) (fun w => 1 ≤ w ∧ w ≤ 5 ∧ ∀ v, 1 ≤ v → v < w → testN t v = false) (fun w => 5 - w) 1 hE ?_ ?_ ⟨Nat.le_refl _, by decide, fun v h1 h2 => by omega⟩ ?_
  · kernel_rfl
  · exact at_keep [0, 4] rfl
  rintro w ⟨h1, h5, hno⟩
  by_cases hw4 : w ≤ 4
  · by_cases hwl : w ≤ t.length
    · by_cases hgt : 1 < w
      · obtain ⟨Q, hQ⟩ : ∃ Q, Q = 2 ^ (7 - w) := ⟨_, rfl⟩
        have hQ0 : 0 < Q := by rw [hQ]; exact Nat.pow_pos (by decide)
        have hQb : Q ≤ 128 := by
          rw [hQ]; exact Nat.le_trans (Nat.pow_le_pow_right (by decide) (show 7 - w ≤ 7 by omega)) (by decide)
        have g2 : (1 : Int) * 2 ^ min (7 - (w : Int)).toNat IntKind.i64.bits = (Q : Int) := by
          have e : (7 - (w : Int)).toNat = 7 - w := by omega
          have : min (7 - w) IntKind.i64.bits = 7 - w := by simp [IntKind.bits]; omega
          rw [e, this, Int.one_mul, hQ]; simp
        obtain ⟨p0, hp0⟩ : ∃ p, p = bt t 0 % Q := ⟨_, rfl⟩
        have hp0l : p0 < Q := by rw [hp0]; exact Nat.mod_lt _ hQ0
        have g3 : ((c0.toNat : Int).tmod (Q : Int)) = (p0 : Int) := by rw [hp0, hA]; rfl
        conv => whnf
        repeat' (first | (refine brd_t (by first | assumption | omega) ?_; conv => whnf) | (refine brd_f (by first | assumption | omega) ?_; conv => whnf) | (refine ask (by first | assumption | omega) ?_; conv => whnf) | (refine fit64 (by omega) ?_; conv => whnf) | (refine fit (by simp only [kmin, kmax]; omega) ?_; conv => whnf) | (refine br_t (by assumption) ?_; conv => whnf) | (refine br_f (by assumption) ?_; conv => whnf) | (refine get_of (by assumption) ?_; conv => whnf) | (refine get_map (by assumption) ?_; conv => whnf) | (rw [g2]; refine fit64 (by omega) ?_; conv => whnf) | (refine fit64 (by omega) ?_; conv => whnf) | (rw [g3]; refine fit64 (by omega) ?_; conv => whnf) | (refine brd (fun h => ?_) (fun h => ?_) <;> conv => whnf) | (refine br (fun h => ?_) (fun h => ?_) <;> conv => whnf) | (refine ret_now hE ?_; conv => whnf) | (intro hlen; conv => whnf))
        refine loopE (fun ((i, n) : Nat × Nat) => ⟨55, [(0, .str t), (4, .int .i64 w), (5, .int .i64 n), (6, .int .i64 i)], []⟩) (fun (i, n) => 1 ≤ i ∧ i ≤ w ∧ n = parN t w (i - 1)) (fun (i, _) => w - i) (1, p0) hE ?_ ?_ ⟨Nat.le_refl _, h1, by show p0 = bt t 0 % 2 ^ (7 - w); rw [hp0, hQ]⟩ ?_
        · kernel_rfl
        · exact at_keep [0, 4, 5, 6] (by rw [g2, g3]; rfl)
        rintro ⟨i, n⟩ ⟨hi1, hiw, hn⟩
        have hnl : n < 2097152 := by rw [hn]; exact parN_lt t (by omega) hw4 (by omega)
        by_cases hlt : i < w
        · obtain ⟨c, hc⟩ : ∃ c, t[i]? = some c := ⟨_, List.getElem?_eq_getElem (by omega)⟩
          have hcb : (c.toNat : Int) = bt t i := by unfold bt; simp [List.getD, hc]
          have hcl := c.toNat_lt
          have f3 : ((c.toNat : Int).tmod 64) = ((c.toNat % 64 : Nat) : Int) := rfl
          conv => whnf
          repeat' (first | (refine brd_t (by first | assumption | omega) ?_; conv => whnf) | (refine brd_f (by first | assumption | omega) ?_; conv => whnf) | (refine ask (by first | assumption | omega) ?_; conv => whnf) | (refine fit64 (by omega) ?_; conv => whnf) | (refine fit (by simp only [kmin, kmax]; omega) ?_; conv => whnf) | (refine br_t (by assumption) ?_; conv => whnf) | (refine br_f (by assumption) ?_; conv => whnf) | (refine get_of (by assumption) ?_; conv => whnf) | (refine get_map (by assumption) ?_; conv => whnf) | (rw [f3]; refine fit64 (by omega) ?_; conv => whnf) | (refine fit64 (by omega) ?_; conv => whnf) | (refine brd (fun h => ?_) (fun h => ?_) <;> conv => whnf) | (refine br (fun h => ?_) (fun h => ?_) <;> conv => whnf) | (refine ret_now hE ?_; conv => whnf) | (intro hlen; conv => whnf))
          refine next_keep [0, 4, 5, 6] (i + 1, n * 64 + c.toNat % 64) ⟨by omega, by omega, ?_⟩ (show w - (i + 1) < w - i by omega) ?_
          · show n * 64 + c.toNat % 64 = parN t w (i + 1 - 1)
            rw [show i + 1 - 1 = (i - 1) + 1 by omega, parN, ← hn, show i - 1 + 1 = i by omega]
            have : c.toNat = bt t i := by omega
            rw [this]
          · rfl
        · have hiw' : i = w := by omega
          have hcand : n = candN t w := by rw [hn, hiw', candN, if_neg (by omega)]
          have hv := is_letter (n : Int)
          cases hl : letB (n : Int) with
          | false =>
            rw [hl] at hv
            have ht : testN t w = false := by unfold testN; rw [← hcand, letN_letB, hl]; simp
            conv => whnf
            repeat' (first | (refine brd_t (by first | assumption | omega) ?_; conv => whnf) | (refine brd_f (by first | assumption | omega) ?_; conv => whnf) | (refine ask (by first | assumption | omega) ?_; conv => whnf) | (refine fit64 (by omega) ?_; conv => whnf) | (refine fit (by simp only [kmin, kmax]; omega) ?_; conv => whnf) | (refine br_t (by assumption) ?_; conv => whnf) | (refine br_f (by assumption) ?_; conv => whnf) | (refine get_of (by assumption) ?_; conv => whnf) | (refine get_map (by assumption) ?_; conv => whnf) | (refine call_eq (hv) hC hasBody_61 ?_ ?_ ?_; kernel_rfl; kernel_rfl; conv => whnf) | (refine callq_eq (hv) hC hasBody_61 ?_ ?_ ?_; kernel_rfl; kernel_rfl; conv => whnf) | (refine brd (fun h => ?_) (fun h => ?_) <;> conv => whnf) | (refine br (fun h => ?_) (fun h => ?_) <;> conv => whnf) | (refine ret_now hE ?_; conv => whnf) | (intro hlen; conv => whnf))
            exact next_keep [0, 4] (w + 1) ⟨by omega, by omega, fun v hv1 hv2 => by
              rcases Nat.lt_or_ge v w with h | h
              · exact hno v hv1 h
              · rw [show v = w by omega]; exact ht⟩ (show 5 - (w + 1) < 5 - w by omega) rfl
          | true =>
            rw [hl] at hv
            have hu := utf_bytes (n : Int) hl
            have hrl := runeB_len (n : Int)
            by_cases hb : runeB (n : Int) = t.take w
            · have ht : testN t w = true := by
                unfold testN; rw [← hcand, decide_eq_true hwl, letN_letB, hl, bytes_rune, decide_eq_true hb]; rfl
              conv => whnf
              repeat' (first | (refine brd_t (by first | assumption | omega) ?_; conv => whnf) | (refine brd_f (by first | assumption | omega) ?_; conv => whnf) | (refine ask (by first | assumption | omega) ?_; conv => whnf) | (refine fit64 (by omega) ?_; conv => whnf) | (refine fit (by simp only [kmin, kmax]; omega) ?_; conv => whnf) | (refine br_t (by assumption) ?_; conv => whnf) | (refine br_f (by assumption) ?_; conv => whnf) | (refine get_of (by assumption) ?_; conv => whnf) | (refine get_map (by assumption) ?_; conv => whnf) | (refine call_eq (hv) hC hasBody_61 ?_ ?_ ?_; kernel_rfl; kernel_rfl; conv => whnf) | (refine callq_eq (hv) hC hasBody_61 ?_ ?_ ?_; kernel_rfl; kernel_rfl; conv => whnf) | (refine call_eq (hu) hC hasBody_49 ?_ ?_ ?_; kernel_rfl; kernel_rfl; conv => whnf) | (refine callq_eq (hu) hC hasBody_49 ?_ ?_ ?_; kernel_rfl; kernel_rfl; conv => whnf) | (refine ⟨cells_b _, ?_⟩; conv => whnf) | (refine ⟨runeB _, rfl, by omega, ?_⟩; conv => whnf) | (refine brd_t hb ?_; conv => whnf) | (refine brd (fun h => ?_) (fun h => ?_) <;> conv => whnf) | (refine br (fun h => ?_) (fun h => ?_) <;> conv => whnf) | (refine ret_now hE ?_; conv => whnf) | (intro hlen; conv => whnf))
              exact ⟨rfl, by rw [firstV, decL_hit h1 hw4 ht, ← hcand]⟩
            · have ht : testN t w = false := by
                unfold testN; rw [← hcand, bytes_rune, decide_eq_false hb]; simp
              conv => whnf
              repeat' (first | (refine brd_t (by first | assumption | omega) ?_; conv => whnf) | (refine brd_f (by first | assumption | omega) ?_; conv => whnf) | (refine ask (by first | assumption | omega) ?_; conv => whnf) | (refine fit64 (by omega) ?_; conv => whnf) | (refine fit (by simp only [kmin, kmax]; omega) ?_; conv => whnf) | (refine br_t (by assumption) ?_; conv => whnf) | (refine br_f (by assumption) ?_; conv => whnf) | (refine get_of (by assumption) ?_; conv => whnf) | (refine get_map (by assumption) ?_; conv => whnf) | (refine call_eq (hv) hC hasBody_61 ?_ ?_ ?_; kernel_rfl; kernel_rfl; conv => whnf) | (refine callq_eq (hv) hC hasBody_61 ?_ ?_ ?_; kernel_rfl; kernel_rfl; conv => whnf) | (refine call_eq (hu) hC hasBody_49 ?_ ?_ ?_; kernel_rfl; kernel_rfl; conv => whnf) | (refine callq_eq (hu) hC hasBody_49 ?_ ?_ ?_; kernel_rfl; kernel_rfl; conv => whnf) | (refine ⟨cells_b _, ?_⟩; conv => whnf) | (refine ⟨runeB _, rfl, by omega, ?_⟩; conv => whnf) | (refine brd_f hb ?_; conv => whnf) | (refine brd (fun h => ?_) (fun h => ?_) <;> conv => whnf) | (refine br (fun h => ?_) (fun h => ?_) <;> conv => whnf) | (refine ret_now hE ?_; conv => whnf) | (intro hlen; conv => whnf))
              exact next_keep [0, 4] (w + 1) ⟨by omega, by omega, fun v hv1 hv2 => by
                rcases Nat.lt_or_ge v w with h | h
                · exact hno v hv1 h
                · rw [show v = w by omega]; exact ht⟩ (show 5 - (w + 1) < 5 - w by omega) rfl
      · have hw1 : w = 1 := by omega
        have hcand : c0.toNat = candN t w := by rw [hw1]; show c0.toNat = bt t 0; omega
        have hv := is_letter (c0.toNat : Int)
        cases hl : letB (c0.toNat : Int) with
        | false =>
          rw [hl] at hv
          have ht : testN t w = false := by unfold testN; rw [← hcand, letN_letB, hl]; simp
          conv => whnf
          repeat' (first | (refine brd_t (by first | assumption | omega) ?_; conv => whnf) | (refine brd_f (by first | assumption | omega) ?_; conv => whnf) | (refine ask (by first | assumption | omega) ?_; conv => whnf) | (refine fit64 (by omega) ?_; conv => whnf) | (refine fit (by simp only [kmin, kmax]; omega) ?_; conv => whnf) | (refine br_t (by assumption) ?_; conv => whnf) | (refine br_f (by assumption) ?_; conv => whnf) | (refine get_of (by assumption) ?_; conv => whnf) | (refine get_map (by assumption) ?_; conv => whnf) | (refine call_eq (hv) hC hasBody_61 ?_ ?_ ?_; kernel_rfl; kernel_rfl; conv => whnf) | (refine callq_eq (hv) hC hasBody_61 ?_ ?_ ?_; kernel_rfl; kernel_rfl; conv => whnf) | (refine brd (fun h => ?_) (fun h => ?_) <;> conv => whnf) | (refine br (fun h => ?_) (fun h => ?_) <;> conv => whnf) | (refine ret_now hE ?_; conv => whnf) | (intro hlen; conv => whnf))
          exact next_keep [0, 4] (w + 1) ⟨by omega, by omega, fun v hv1 hv2 => by
            rcases Nat.lt_or_ge v w with h | h
            · exact hno v hv1 h
            · rw [show v = w by omega]; exact ht⟩ (show 5 - (w + 1) < 5 - w by omega) rfl
        | true =>
          rw [hl] at hv
          have hu := utf_bytes (c0.toNat : Int) hl
          have hrl := runeB_len (c0.toNat : Int)
          by_cases hb : runeB (c0.toNat : Int) = t.take w
          · have ht : testN t w = true := by
              unfold testN; rw [← hcand, decide_eq_true hwl, letN_letB, hl, bytes_rune, decide_eq_true hb]; rfl
            conv => whnf
            repeat' (first | (refine brd_t (by first | assumption | omega) ?_; conv => whnf) | (refine brd_f (by first | assumption | omega) ?_; conv => whnf) | (refine ask (by first | assumption | omega) ?_; conv => whnf) | (refine fit64 (by omega) ?_; conv => whnf) | (refine fit (by simp only [kmin, kmax]; omega) ?_; conv => whnf) | (refine br_t (by assumption) ?_; conv => whnf) | (refine br_f (by assumption) ?_; conv => whnf) | (refine get_of (by assumption) ?_; conv => whnf) | (refine get_map (by assumption) ?_; conv => whnf) | (refine call_eq (hv) hC hasBody_61 ?_ ?_ ?_; kernel_rfl; kernel_rfl; conv => whnf) | (refine callq_eq (hv) hC hasBody_61 ?_ ?_ ?_; kernel_rfl; kernel_rfl; conv => whnf) | (refine call_eq (hu) hC hasBody_49 ?_ ?_ ?_; kernel_rfl; kernel_rfl; conv => whnf) | (refine callq_eq (hu) hC hasBody_49 ?_ ?_ ?_; kernel_rfl; kernel_rfl; conv => whnf) | (refine ⟨cells_b _, ?_⟩; conv => whnf) | (refine ⟨runeB _, rfl, by omega, ?_⟩; conv => whnf) | (refine brd_t hb ?_; conv => whnf) | (refine brd (fun h => ?_) (fun h => ?_) <;> conv => whnf) | (refine br (fun h => ?_) (fun h => ?_) <;> conv => whnf) | (refine ret_now hE ?_; conv => whnf) | (intro hlen; conv => whnf))
            exact ⟨rfl, by rw [firstV, decL_hit h1 hw4 ht, ← hcand]⟩
          · have ht : testN t w = false := by
              unfold testN; rw [← hcand, bytes_rune, decide_eq_false hb]; simp
            conv => whnf
            repeat' (first | (refine brd_t (by first | assumption | omega) ?_; conv => whnf) | (refine brd_f (by first | assumption | omega) ?_; conv => whnf) | (refine ask (by first | assumption | omega) ?_; conv => whnf) | (refine fit64 (by omega) ?_; conv => whnf) | (refine fit (by simp only [kmin, kmax]; omega) ?_; conv => whnf) | (refine br_t (by assumption) ?_; conv => whnf) | (refine br_f (by assumption) ?_; conv => whnf) | (refine get_of (by assumption) ?_; conv => whnf) | (refine get_map (by assumption) ?_; conv => whnf) | (refine call_eq (hv) hC hasBody_61 ?_ ?_ ?_; kernel_rfl; kernel_rfl; conv => whnf) | (refine callq_eq (hv) hC hasBody_61 ?_ ?_ ?_; kernel_rfl; kernel_rfl; conv => whnf) | (refine call_eq (hu) hC hasBody_49 ?_ ?_ ?_; kernel_rfl; kernel_rfl; conv => whnf) | (refine callq_eq (hu) hC hasBody_49 ?_ ?_ ?_; kernel_rfl; kernel_rfl; conv => whnf) | (refine ⟨cells_b _, ?_⟩; conv => whnf) | (refine ⟨runeB _, rfl, by omega, ?_⟩; conv => whnf) | (refine brd_f hb ?_; conv => whnf) | (refine brd (fun h => ?_) (fun h => ?_) <;> conv => whnf) | (refine br (fun h => ?_) (fun h => ?_) <;> conv => whnf) | (refine ret_now hE ?_; conv => whnf) | (intro hlen; conv => whnf))
            exact next_keep [0, 4] (w + 1) ⟨by omega, by omega, fun v hv1 hv2 => by
              rcases Nat.lt_or_ge v w with h | h
              · exact hno v hv1 h
              · rw [show v = w by omega]; exact ht⟩ (show 5 - (w + 1) < 5 - w by omega) rfl
    · conv => whnf
      repeat' (first | (refine brd_t (by first | assumption | omega) ?_; conv => whnf) | (refine brd_f (by first | assumption | omega) ?_; conv => whnf) | (refine ask (by first | assumption | omega) ?_; conv => whnf) | (refine fit64 (by omega) ?_; conv => whnf) | (refine fit (by simp only [kmin, kmax]; omega) ?_; conv => whnf) | (refine br_t (by assumption) ?_; conv => whnf) | (refine br_f (by assumption) ?_; conv => whnf) | (refine get_of (by assumption) ?_; conv => whnf) | (refine get_map (by assumption) ?_; conv => whnf) | (refine brd (fun h => ?_) (fun h => ?_) <;> conv => whnf) | (refine br (fun h => ?_) (fun h => ?_) <;> conv => whnf) | (refine ret_now hE ?_; conv => whnf) | (intro hlen; conv => whnf))
      exact ⟨rfl, by
        rw [firstV, decL_miss hne (fun v hv1 hv4 => by
          rcases Nat.lt_or_ge v w with h | h
          · exact hno v hv1 h
          · exact test_short (by omega))]
        rfl⟩
  · conv => whnf
    repeat' (first | (refine brd_t (by first | assumption | omega) ?_; conv => whnf) | (refine brd_f (by first | assumption | omega) ?_; conv => whnf) | (refine ask (by first | assumption | omega) ?_; conv => whnf) | (refine fit64 (by omega) ?_; conv => whnf) | (refine fit (by simp only [kmin, kmax]; omega) ?_; conv => whnf) | (refine br_t (by assumption) ?_; conv => whnf) | (refine br_f (by assumption) ?_; conv => whnf) | (refine get_of (by assumption) ?_; conv => whnf) | (refine get_map (by assumption) ?_; conv => whnf) | (refine brd (fun h => ?_) (fun h => ?_) <;> conv => whnf) | (refine br (fun h => ?_) (fun h => ?_) <;> conv => whnf) | (refine ret_now hE ?_; conv => whnf) | (intro hlen; conv => whnf))
    exact ⟨rfl, by rw [firstV, decL_miss hne (fun v hv1 hv4 => hno v hv1 (by omega))]; rfl⟩

def natI (n : Nat) : V := .int .i64 (n : Int)
theorem nats_len (l : List Nat) : (l.map natI).length = l.length := by simp
theorem nr_nats (l : List Nat) : nrL (l.map natI) := by
  induction l with
  | nil => trivial
  | cons x l ih => exact ⟨trivial, ih⟩
theorem nats_cut (l : List Nat) : List.take l.length (List.drop 0 (l.map natI)) = l.map natI := by rw [List.drop_zero]; exact List.take_of_length_le (by simp)
theorem runes_at {s : List UInt8} {pos : Nat} (h : pos < s.length) : runesL (s.drop pos) = (dec s pos).1 :: runesL (s.drop (pos + (dec s pos).2)) := by
  rw [runesL_step (fun e => by have := congrArg List.length e; simp at this; omega), dec_eq, List.drop_drop]
theorem decL_let (t : List UInt8) : letB ((decL t).1 : Int) = true := by
  have h0 := bt_lt t 0
  unfold decL decF
  simp only [valid_let, letN_letB]
  repeat' split
  all_goals first
    | (rename_i hh; simp only [Bool.and_eq_true] at hh; exact hh.2)
    | rfl
    | (simp only [letB, decide_eq_true_eq]; omega)
theorem decL_low {t : List UInt8} (h : (decL t).1 < 128) : (decL t).1 = bt t 0 ∧ (decL t).2 = 1 := by
  revert h
  unfold decL decF
  (repeat' split) <;> simp_all <;> omega
theorem decL_of_low {t : List UInt8} (h : bt t 0 < 128) : decL t = (bt t 0, 1) := by
  unfold decL; exact decF_1 h
/-- What is written of letters. -/
def cleanR : List Nat → List UInt8
  | [] => []
  | n :: l => (if n = 13 then (if l[0]? = some 10 then [] else runeB 10) else runeB (if n = 0 then 65533 else (n : Int))) ++ cleanR l
theorem head_lf (t : List UInt8) : (runesL t)[0]? = some 10 ↔ ∃ c, t[0]? = some c ∧ (c.toNat : Int) = 10 := by
  by_cases h : t = []
  · subst h; rw [runesL_nil]; simp
  · rw [runesL_step h]
    have h0 : 0 < t.length := List.length_pos_iff.2 h
    have hc : t[0]? = some t[0] := List.getElem?_eq_getElem h0
    have hb : bt t 0 = t[0].toNat := by unfold bt; simp [List.getD, hc]
    rw [hc]
    simp only [List.getElem?_cons_zero, Option.some.injEq]
    constructor
    · intro e
      exact ⟨_, rfl, by have := (decL_low (t := t) (by omega)).1; omega⟩
    · rintro ⟨c, e, h10⟩
      subst e
      rw [decL_of_low (by omega)]
      omega
theorem clean_step {l : List Nat} {k n : Nat} (hx : l[k]? = some n) : cleanR (l.drop k) = (if n = 13 then (if l[k + 1]? = some 10 then [] else runeB 10) else runeB (if n = 0 then 65533 else (n : Int))) ++ cleanR (l.drop (k + 1)) := by
  have hk := (List.getElem?_eq_some_iff.1 hx).1
  have hn := (List.getElem?_eq_some_iff.1 hx).2
  rw [List.drop_eq_getElem_cons hk, hn, cleanR]
  simp
theorem runes_all (n : Nat) : ∀ t : List UInt8, t.length ≤ n → ∀ x ∈ runesL t, letB (x : Int) = true := by
  induction n with
  | zero => intro t ht; rw [List.length_eq_zero_iff.1 (Nat.le_zero.1 ht), runesL_nil]; intro x hx; cases hx
  | succ n ih =>
    intro t ht x hx
    by_cases h : t = []
    · rw [h, runesL_nil] at hx; cases hx
    · have h1 := (decL_le t).2.1
      have h3 : 0 < t.length := List.length_pos_iff.2 h
      rw [runesL_step h] at hx
      rcases List.mem_cons.1 hx with e | e
      · rw [e]; exact decL_let t
      · exact ih _ (by rw [List.length_drop]; omega) x e
theorem runes_let (s : List UInt8) {k x : Nat} (hx : (runesL s)[k]? = some x) : letB (x : Int) = true := runes_all _ s (Nat.le_refl _) x (List.mem_of_getElem? hx)
theorem kill_nats (id : Nat) (l : List Nat) : killL id (l.map natI) = l.map natI := kill_nrL _ (nr_nats _)
set_option maxHeartbeats 8000000 in
theorem runes_ref (s : List UInt8) (hs : s.length ≤ 1099511627776) : Fn1 Try.prog 17 [.str s] (fun r => r = .lst ((runesL s).map natI)) := by
  refine fn1E (T := Try.tt) Try.func17 rfl tt_all follows_all ?_ ?_ fun C hC hE => ?_
  · kernel_rfl
  · exact Nat.le_of_ble_eq_true (by kernel_rfl)
  conv => whnf
  repeat' (first | (refine brd_t (by first | assumption | omega) ?_; conv => whnf) | (refine brd_f (by first | assumption | omega) ?_; conv => whnf) | (refine ask (by first | assumption | omega) ?_; conv => whnf) | (refine fit64 (by omega) ?_; conv => whnf) | (refine fit (by simp only [kmin, kmax]; omega) ?_; conv => whnf) | (refine br_t (by assumption) ?_; conv => whnf) | (refine br_f (by assumption) ?_; conv => whnf) | (refine get_of (by assumption) ?_; conv => whnf) | (refine get_map (by assumption) ?_; conv => whnf) | (refine brd (fun h => ?_) (fun h => ?_) <;> conv => whnf) | (refine br (fun h => ?_) (fun h => ?_) <;> conv => whnf) | (refine ret_now hE ?_; conv => whnf) | (intro hlen; conv => whnf))
  refine loopE (fun ((t, acc) : List UInt8 × List Nat) => ⟨22, [(0, .str t), (3, .sl 0 0 acc.length)], [some (.row 1 (acc.map natI))]⟩)
    (fun (t, acc) => acc.length + t.length ≤ s.length ∧ acc ++ runesL t = runesL s) (fun (t, _) => t.length) (s, []) hE ?_ ?_ ⟨by simp, rfl⟩ ?_
  · kernel_rfl
  · exact up_own 3 1 rfl rfl (at_keep [0, 3] rfl)
  rintro ⟨t, acc⟩ ⟨hl, hacc⟩
  have hnl := nats_len acc
  by_cases hne : t = []
  · have h0 : t.length = 0 := by rw [hne]; rfl
    have hend : acc = runesL s := by rw [hne, runesL_nil, List.append_nil] at hacc; exact hacc
    conv => whnf
    repeat' (first | (refine brd_t (by first | assumption | omega) ?_; conv => whnf) | (refine brd_f (by first | assumption | omega) ?_; conv => whnf) | (refine ask (by first | assumption | omega) ?_; conv => whnf) | (refine fit64 (by omega) ?_; conv => whnf) | (refine fit (by simp only [kmin, kmax]; omega) ?_; conv => whnf) | (refine br_t (by assumption) ?_; conv => whnf) | (refine br_f (by assumption) ?_; conv => whnf) | (refine get_of (by assumption) ?_; conv => whnf) | (refine get_map (by assumption) ?_; conv => whnf) | (refine ret_up (up_frzK 0 2 [] rfl (nr_nats acc) rfl (by simp) rfl (up_here ?_))) | (refine brd (fun h => ?_) (fun h => ?_) <;> conv => whnf) | (refine br (fun h => ?_) (fun h => ?_) <;> conv => whnf) | (refine ret_now hE ?_; conv => whnf) | (intro hlen; conv => whnf))
    exact ⟨rfl, by rw [hend]⟩
  · have h0 : 0 < t.length := List.length_pos_iff.2 hne
    have hd := runesL_step hne
    have hle := (decL_le t).1
    have hpos := (decL_le t).2.1
    have hdl := decL_len hne
    have uf := utf_first t hne
    unfold firstV at uf
    conv => whnf
    repeat' (first | (refine brd_t (by first | assumption | omega) ?_; conv => whnf) | (refine brd_f (by first | assumption | omega) ?_; conv => whnf) | (refine ask (by first | assumption | omega) ?_; conv => whnf) | (refine fit64 (by omega) ?_; conv => whnf) | (refine fit (by simp only [kmin, kmax]; omega) ?_; conv => whnf) | (refine br_t (by assumption) ?_; conv => whnf) | (refine br_f (by assumption) ?_; conv => whnf) | (refine get_of (by assumption) ?_; conv => whnf) | (refine get_map (by assumption) ?_; conv => whnf) | (refine call_eq (uf) hC hasBody_40 ?_ ?_ ?_; kernel_rfl; kernel_rfl; conv => whnf) | (refine callq_eq (uf) hC hasBody_40 ?_ ?_ ?_; kernel_rfl; kernel_rfl; conv => whnf) | (refine ask ⟨?_, ?_, ?_⟩ ?_; omega; (show acc.length + 1 ≤ 9223372036854775807; omega); (show (acc.length + 1) * 8 ≤ 140737488355328; omega); conv => whnf) | (refine ask (Nat.le_refl 1) ?_; conv => whnf) | (refine brd (fun h => ?_) (fun h => ?_) <;> conv => whnf) | (refine br (fun h => ?_) (fun h => ?_) <;> conv => whnf) | (refine ret_now hE ?_; conv => whnf) | (intro hlen; conv => whnf))
    refine next_drop [0, 3] [1] (t.drop (decL t).2, acc ++ [(decL t).1]) ⟨(show (acc ++ [(decL t).1]).length + (t.drop (decL t).2).length ≤ s.length by simp only [List.length_append, List.length_cons, List.length_nil, List.length_drop]; omega), (show (acc ++ [(decL t).1]) ++ runesL (t.drop (decL t).2) = runesL s by rw [← hacc, hd]; simp)⟩ (show (t.drop (decL t).2).length < t.length by rw [List.length_drop]; omega) ?_
    have e2 : killL 1 (killL 0 (List.take acc.length (List.drop 0 (acc.map natI)) ++ List.take 1 (List.drop 0 [V.int .i64 ((decL t).1 : Int)]))) = (acc ++ [(decL t).1]).map natI := by
      rw [nats_cut, show acc.map natI ++ List.take 1 (List.drop 0 [V.int .i64 ((decL t).1 : Int)]) = (acc ++ [(decL t).1]).map natI from by rw [List.map_append]; rfl, kill_nats, kill_nats]
    conv => whnf
    rw [e2]
    show _ = (⟨22, [(0, .str (t.drop (decL t).2)), (3, .sl 0 0 (acc ++ [(decL t).1]).length)], [some (.row 1 ((acc ++ [(decL t).1]).map natI))]⟩ : ES)
    rw [List.length_append]
    rfl
set_option maxHeartbeats 8000000 in
theorem utf_clean (s : List UInt8) (hs : s.length ≤ 1048576) : Fn1 Try.prog 27 [.str s] (fun r => r = .str (cleanR (runesL s))) := by
  refine fn1E (T := Try.tt) Try.func27 rfl tt_all follows_all ?_ ?_ fun C hC hE => ?_
  · kernel_rfl
  · exact Nat.le_of_ble_eq_true (by kernel_rfl)
  conv => whnf
  repeat' (first | (refine brd_t (by first | assumption | omega) ?_; conv => whnf) | (refine brd_f (by first | assumption | omega) ?_; conv => whnf) | (refine ask (by first | assumption | omega) ?_; conv => whnf) | (refine fit64 (by omega) ?_; conv => whnf) | (refine fit (by simp only [kmin, kmax]; omega) ?_; conv => whnf) | (refine br_t (by assumption) ?_; conv => whnf) | (refine br_f (by assumption) ?_; conv => whnf) | (refine get_of (by assumption) ?_; conv => whnf) | (refine get_map (by assumption) ?_; conv => whnf) | (refine brd (fun h => ?_) (fun h => ?_) <;> conv => whnf) | (refine br (fun h => ?_) (fun h => ?_) <;> conv => whnf) | (refine ret_now hE ?_; conv => whnf) | (intro hlen; conv => whnf))
  refine loopE (fun ((pos, b) : Nat × List UInt8) => ⟨40, [(0, .str s), (3, .sl 1 0 b.length), (7, .it 0)], [some (.iter s pos), some (.row 1 (b.map byteV))]⟩)
    (fun (pos, b) => pos ≤ s.length ∧ b.length ≤ 4 * pos ∧ b ++ cleanR (runesL (s.drop pos)) = cleanR (runesL s)) (fun (pos, _) => s.length - pos) (0, []) hE ?_ ?_ ⟨Nat.zero_le _, by simp, rfl⟩ ?_
  · kernel_rfl
  · exact up_own 3 1 rfl rfl (at_keep [0, 3, 7] rfl)
  rintro ⟨pos, b⟩ ⟨hps, hb, hacc⟩
  have hbm : (b.map byteV).length = b.length := by simp
  by_cases hlt : pos < s.length
  · have hd := runes_at hlt
    have hle := (decL_le (s.drop pos)).1
    have hpos := (decL_le (s.drop pos)).2.1
    have hlet := decL_let (s.drop pos)
    rw [← dec_eq] at hle hpos hlet
    have hdl : pos + (dec s pos).2 ≤ s.length := by
      have := decL_len (t := s.drop pos) (fun e => by have := congrArg List.length e; simp at this; omega)
      rw [← dec_eq, List.length_drop] at this; omega
    rw [hd, cleanR] at hacc
    by_cases h0 : (dec s pos).1 = 0
    · have ha := h_app 65533 (by decide) b (by omega)
      have hrl := runeB_len 65533
      rw [if_neg (by omega), if_pos h0] at hacc
      conv => whnf
      repeat' (first | (refine brd_t (by first | assumption | omega) ?_; conv => whnf) | (refine brd_f (by first | assumption | omega) ?_; conv => whnf) | (refine ask (by first | assumption | omega) ?_; conv => whnf) | (refine fit64 (by omega) ?_; conv => whnf) | (refine fit (by simp only [kmin, kmax]; omega) ?_; conv => whnf) | (refine br_t (by assumption) ?_; conv => whnf) | (refine br_f (by assumption) ?_; conv => whnf) | (refine get_of (by assumption) ?_; conv => whnf) | (refine get_map (by assumption) ?_; conv => whnf) | (refine call_own ha hC hasBody_48 1 rfl (by simp [rnL, rnV]) rfl (bytes_nr _) (bytes_nr _) ?_; conv => whnf) | (refine brd (fun h => ?_) (fun h => ?_) <;> conv => whnf) | (refine br (fun h => ?_) (fun h => ?_) <;> conv => whnf) | (refine ret_now hE ?_; conv => whnf) | (intro hlen; conv => whnf))
      exact next_keep [0, 3, 7] (pos + (dec s pos).2, b ++ runeB 65533) ⟨hdl, (show (b ++ runeB 65533).length ≤ 4 * (pos + (dec s pos).2) by rw [List.length_append]; omega), by rw [← hacc]; simp⟩ (show s.length - (pos + (dec s pos).2) < s.length - pos by omega) rfl
    by_cases h13 : (dec s pos).1 = 13
    · have h1 : (dec s pos).2 = 1 := by rw [dec_eq] at h13 ⊢; exact (decL_low (by omega)).2
      have hlf := head_lf (s.drop (pos + (dec s pos).2))
      rw [List.getElem?_drop, Nat.add_zero, h1] at hlf
      have ha := h_app 10 (by decide) b (by omega)
      have hrl := runeB_len 10
      rw [if_pos h13, h1] at hacc
      by_cases hn : pos + 1 < s.length
      · obtain ⟨c, hc⟩ : ∃ c, s[pos + 1]? = some c := ⟨_, List.getElem?_eq_getElem hn⟩
        have hc' : s[((pos : Int) + 1).toNat]? = some c := hc
        rw [hc] at hlf
        by_cases h10 : (c.toNat : Int) = 10
        · rw [if_pos (hlf.2 ⟨c, rfl, h10⟩)] at hacc
          conv => whnf
          repeat' (first | (refine brd_t (by first | assumption | omega) ?_; conv => whnf) | (refine brd_f (by first | assumption | omega) ?_; conv => whnf) | (refine ask (by first | assumption | omega) ?_; conv => whnf) | (refine fit64 (by omega) ?_; conv => whnf) | (refine fit (by simp only [kmin, kmax]; omega) ?_; conv => whnf) | (refine br_t (by assumption) ?_; conv => whnf) | (refine br_f (by assumption) ?_; conv => whnf) | (refine get_of (by assumption) ?_; conv => whnf) | (refine get_map (by assumption) ?_; conv => whnf) | (refine call_own ha hC hasBody_48 1 rfl (by simp [rnL, rnV]) rfl (bytes_nr _) (bytes_nr _) ?_; conv => whnf) | (refine brd (fun h => ?_) (fun h => ?_) <;> conv => whnf) | (refine br (fun h => ?_) (fun h => ?_) <;> conv => whnf) | (refine ret_now hE ?_; conv => whnf) | (intro hlen; conv => whnf))
          exact next_keep [0, 3, 7] (pos + (dec s pos).2, b) ⟨hdl, (show (b).length ≤ 4 * (pos + (dec s pos).2) by omega), by rw [← hacc, h1]; simp⟩ (show s.length - (pos + (dec s pos).2) < s.length - pos by omega) rfl
        · rw [if_neg (fun hh => by obtain ⟨c', e, h'⟩ := hlf.1 hh; cases e; exact h10 h')] at hacc
          conv => whnf
          repeat' (first | (refine brd_t (by first | assumption | omega) ?_; conv => whnf) | (refine brd_f (by first | assumption | omega) ?_; conv => whnf) | (refine ask (by first | assumption | omega) ?_; conv => whnf) | (refine fit64 (by omega) ?_; conv => whnf) | (refine fit (by simp only [kmin, kmax]; omega) ?_; conv => whnf) | (refine br_t (by assumption) ?_; conv => whnf) | (refine br_f (by assumption) ?_; conv => whnf) | (refine get_of (by assumption) ?_; conv => whnf) | (refine get_map (by assumption) ?_; conv => whnf) | (refine call_own ha hC hasBody_48 1 rfl (by simp [rnL, rnV]) rfl (bytes_nr _) (bytes_nr _) ?_; conv => whnf) | (refine brd (fun h => ?_) (fun h => ?_) <;> conv => whnf) | (refine br (fun h => ?_) (fun h => ?_) <;> conv => whnf) | (refine ret_now hE ?_; conv => whnf) | (intro hlen; conv => whnf))
          exact next_keep [0, 3, 7] (pos + (dec s pos).2, b ++ runeB 10) ⟨hdl, (show (b ++ runeB 10).length ≤ 4 * (pos + (dec s pos).2) by rw [List.length_append]; omega), by rw [← hacc, h1]; simp⟩ (show s.length - (pos + (dec s pos).2) < s.length - pos by omega) rfl
      · rw [if_neg (fun hh => by obtain ⟨c', e, h'⟩ := hlf.1 hh; rw [List.getElem?_eq_none (by omega)] at e; cases e)] at hacc
        conv => whnf
        repeat' (first | (refine brd_t (by first | assumption | omega) ?_; conv => whnf) | (refine brd_f (by first | assumption | omega) ?_; conv => whnf) | (refine ask (by first | assumption | omega) ?_; conv => whnf) | (refine fit64 (by omega) ?_; conv => whnf) | (refine fit (by simp only [kmin, kmax]; omega) ?_; conv => whnf) | (refine br_t (by assumption) ?_; conv => whnf) | (refine br_f (by assumption) ?_; conv => whnf) | (refine get_of (by assumption) ?_; conv => whnf) | (refine get_map (by assumption) ?_; conv => whnf) | (refine call_own ha hC hasBody_48 1 rfl (by simp [rnL, rnV]) rfl (bytes_nr _) (bytes_nr _) ?_; conv => whnf) | (refine brd (fun h => ?_) (fun h => ?_) <;> conv => whnf) | (refine br (fun h => ?_) (fun h => ?_) <;> conv => whnf) | (refine ret_now hE ?_; conv => whnf) | (intro hlen; conv => whnf))
        exact next_keep [0, 3, 7] (pos + (dec s pos).2, b ++ runeB 10) ⟨hdl, (show (b ++ runeB 10).length ≤ 4 * (pos + (dec s pos).2) by rw [List.length_append]; omega), by rw [← hacc, h1]; simp⟩ (show s.length - (pos + (dec s pos).2) < s.length - pos by omega) rfl
    · have ha := h_app ((dec s pos).1 : Int) hlet b (by omega)
      have hrl := runeB_len ((dec s pos).1 : Int)
      rw [if_neg h13, if_neg h0] at hacc
      conv => whnf
      repeat' (first | (refine brd_t (by first | assumption | omega) ?_; conv => whnf) | (refine brd_f (by first | assumption | omega) ?_; conv => whnf) | (refine ask (by first | assumption | omega) ?_; conv => whnf) | (refine fit64 (by omega) ?_; conv => whnf) | (refine fit (by simp only [kmin, kmax]; omega) ?_; conv => whnf) | (refine br_t (by assumption) ?_; conv => whnf) | (refine br_f (by assumption) ?_; conv => whnf) | (refine get_of (by assumption) ?_; conv => whnf) | (refine get_map (by assumption) ?_; conv => whnf) | (refine call_own ha hC hasBody_48 1 rfl (by simp [rnL, rnV]) rfl (bytes_nr _) (bytes_nr _) ?_; conv => whnf) | (refine brd (fun h => ?_) (fun h => ?_) <;> conv => whnf) | (refine br (fun h => ?_) (fun h => ?_) <;> conv => whnf) | (refine ret_now hE ?_; conv => whnf) | (intro hlen; conv => whnf))
      exact next_keep [0, 3, 7] (pos + (dec s pos).2, b ++ runeB ((dec s pos).1 : Int)) ⟨hdl, (show (b ++ runeB ((dec s pos).1 : Int)).length ≤ 4 * (pos + (dec s pos).2) by rw [List.length_append]; omega), by rw [← hacc]; simp⟩ (show s.length - (pos + (dec s pos).2) < s.length - pos by omega) rfl
  · have hcut : List.take b.length (List.drop 0 (b.map byteV)) = b.map byteV := by rw [List.drop_zero]; exact List.take_of_length_le (by omega)
    conv => whnf
    repeat' (first | (refine brd_t (by first | assumption | omega) ?_; conv => whnf) | (refine brd_f (by first | assumption | omega) ?_; conv => whnf) | (refine ask (by first | assumption | omega) ?_; conv => whnf) | (refine fit64 (by omega) ?_; conv => whnf) | (refine fit (by simp only [kmin, kmax]; omega) ?_; conv => whnf) | (refine br_t (by assumption) ?_; conv => whnf) | (refine br_f (by assumption) ?_; conv => whnf) | (refine get_of (by assumption) ?_; conv => whnf) | (refine get_map (by assumption) ?_; conv => whnf) | (refine ⟨b, hcut, by omega, ?_⟩; conv => whnf) | (refine brd (fun h => ?_) (fun h => ?_) <;> conv => whnf) | (refine br (fun h => ?_) (fun h => ?_) <;> conv => whnf) | (refine ret_now hE ?_; conv => whnf) | (intro hlen; conv => whnf))
    rw [List.drop_of_length_le (by omega), runesL_nil, cleanR, List.append_nil] at hacc
    exact ⟨rfl, by rw [hacc]⟩
set_option maxHeartbeats 8000000 in
theorem doc_clean (s : List UInt8) (hs : s.length ≤ 1048576) : Fn1 Try.prog 28 [.str s] (fun r => r = .str (cleanR (runesL s))) := by
  have hr := runes_ref s (by omega)
  have hlm := nats_len (runesL s)
  have hrl := runesL_len _ s (Nat.le_refl _)
  refine fn1E (T := Try.tt) Try.func28 rfl tt_all follows_all ?_ ?_ fun C hC hE => ?_
  · kernel_rfl
  · exact Nat.le_of_ble_eq_true (by kernel_rfl)
  conv => whnf
  repeat' (first | (refine brd_t (by first | assumption | omega) ?_; conv => whnf) | (refine brd_f (by first | assumption | omega) ?_; conv => whnf) | (refine ask (by first | assumption | omega) ?_; conv => whnf) | (refine fit64 (by omega) ?_; conv => whnf) | (refine fit (by simp only [kmin, kmax]; omega) ?_; conv => whnf) | (refine br_t (by assumption) ?_; conv => whnf) | (refine br_f (by assumption) ?_; conv => whnf) | (refine get_of (by assumption) ?_; conv => whnf) | (refine get_map (by assumption) ?_; conv => whnf) | (refine call_eq (hr) hC hasBody_17 ?_ ?_ ?_; kernel_rfl; kernel_rfl; conv => whnf) | (refine callq_eq (hr) hC hasBody_17 ?_ ?_ ?_; kernel_rfl; kernel_rfl; conv => whnf) | (refine brd (fun h => ?_) (fun h => ?_) <;> conv => whnf) | (refine br (fun h => ?_) (fun h => ?_) <;> conv => whnf) | (refine ret_now hE ?_; conv => whnf) | (intro hlen; conv => whnf))
  refine loopE (fun ((k, o) : Nat × List UInt8) => ⟨40, [(3, .str o), (4, .lst ((runesL s).map natI)), (9, .lst ((runesL s).map natI)), (10, .int .i64 ((runesL s).map natI).length), (11, .int .i64 k)], []⟩)
    (fun (k, o) => k ≤ (runesL s).length ∧ o.length ≤ 4 * k ∧ o ++ cleanR ((runesL s).drop k) = cleanR (runesL s)) (fun (k, _) => (runesL s).length - k) (0, []) hE ?_ ?_ ⟨Nat.zero_le _, by simp, rfl⟩ ?_
  · kernel_rfl
  · exact at_keep [3, 4, 9, 10, 11] rfl
  rintro ⟨k, o⟩ ⟨hk, ho, hacc⟩
  by_cases hlt : k < (runesL s).length
  · obtain ⟨x, hx⟩ : ∃ x, (runesL s)[k]? = some x := ⟨_, List.getElem?_eq_getElem hlt⟩
    rw [clean_step hx] at hacc
    have hxl := runes_let s hx
    by_cases h13 : x = 13
    · have hu := utf_bytes 10 (by decide)
      have hrl := runeB_len 10
      rw [if_pos h13] at hacc
      by_cases hn : k + 1 < (runesL s).length
      · obtain ⟨y, hy⟩ : ∃ y, (runesL s)[k + 1]? = some y := ⟨_, List.getElem?_eq_getElem hn⟩
        have hy' : (runesL s)[((k : Int) + 1).toNat]? = some y := hy
        rw [hy] at hacc
        by_cases h10 : y = 10
        · rw [if_pos (by rw [h10])] at hacc
          conv => whnf
          repeat' (first | (refine brd_t (by first | assumption | omega) ?_; conv => whnf) | (refine brd_f (by first | assumption | omega) ?_; conv => whnf) | (refine ask (by first | assumption | omega) ?_; conv => whnf) | (refine fit64 (by omega) ?_; conv => whnf) | (refine fit (by simp only [kmin, kmax]; omega) ?_; conv => whnf) | (refine br_t (by assumption) ?_; conv => whnf) | (refine br_f (by assumption) ?_; conv => whnf) | (refine get_of (by assumption) ?_; conv => whnf) | (refine get_map (by assumption) ?_; conv => whnf) | (refine call_eq (hu) hC hasBody_49 ?_ ?_ ?_; kernel_rfl; kernel_rfl; conv => whnf) | (refine callq_eq (hu) hC hasBody_49 ?_ ?_ ?_; kernel_rfl; kernel_rfl; conv => whnf) | (refine ⟨cells_b _, ?_⟩; conv => whnf) | (refine ⟨runeB _, rfl, by omega, ?_⟩; conv => whnf) | (refine ask (by omega) ?_; conv => whnf) | (refine brd (fun h => ?_) (fun h => ?_) <;> conv => whnf) | (refine br (fun h => ?_) (fun h => ?_) <;> conv => whnf) | (refine ret_now hE ?_; conv => whnf) | (intro hlen; conv => whnf))
          exact next_keep [3, 4, 9, 10, 11] (k + 1, o) ⟨hlt, (show (o).length ≤ 4 * (k + 1) by omega), by rw [← hacc]; simp⟩ (show (runesL s).length - (k + 1) < (runesL s).length - k by omega) rfl
        · rw [if_neg (by simpa using h10)] at hacc
          conv => whnf
          repeat' (first | (refine brd_t (by first | assumption | omega) ?_; conv => whnf) | (refine brd_f (by first | assumption | omega) ?_; conv => whnf) | (refine ask (by first | assumption | omega) ?_; conv => whnf) | (refine fit64 (by omega) ?_; conv => whnf) | (refine fit (by simp only [kmin, kmax]; omega) ?_; conv => whnf) | (refine br_t (by assumption) ?_; conv => whnf) | (refine br_f (by assumption) ?_; conv => whnf) | (refine get_of (by assumption) ?_; conv => whnf) | (refine get_map (by assumption) ?_; conv => whnf) | (refine call_eq (hu) hC hasBody_49 ?_ ?_ ?_; kernel_rfl; kernel_rfl; conv => whnf) | (refine callq_eq (hu) hC hasBody_49 ?_ ?_ ?_; kernel_rfl; kernel_rfl; conv => whnf) | (refine ⟨cells_b _, ?_⟩; conv => whnf) | (refine ⟨runeB _, rfl, by omega, ?_⟩; conv => whnf) | (refine ask (by omega) ?_; conv => whnf) | (refine brd (fun h => ?_) (fun h => ?_) <;> conv => whnf) | (refine br (fun h => ?_) (fun h => ?_) <;> conv => whnf) | (refine ret_now hE ?_; conv => whnf) | (intro hlen; conv => whnf))
          exact next_keep [3, 4, 9, 10, 11] (k + 1, o ++ runeB 10) ⟨hlt, (show (o ++ runeB 10).length ≤ 4 * (k + 1) by rw [List.length_append]; omega), by rw [← hacc]; simp⟩ (show (runesL s).length - (k + 1) < (runesL s).length - k by omega) rfl
      · rw [if_neg (by rw [List.getElem?_eq_none (by omega)]; simp)] at hacc
        conv => whnf
        repeat' (first | (refine brd_t (by first | assumption | omega) ?_; conv => whnf) | (refine brd_f (by first | assumption | omega) ?_; conv => whnf) | (refine ask (by first | assumption | omega) ?_; conv => whnf) | (refine fit64 (by omega) ?_; conv => whnf) | (refine fit (by simp only [kmin, kmax]; omega) ?_; conv => whnf) | (refine br_t (by assumption) ?_; conv => whnf) | (refine br_f (by assumption) ?_; conv => whnf) | (refine get_of (by assumption) ?_; conv => whnf) | (refine get_map (by assumption) ?_; conv => whnf) | (refine call_eq (hu) hC hasBody_49 ?_ ?_ ?_; kernel_rfl; kernel_rfl; conv => whnf) | (refine callq_eq (hu) hC hasBody_49 ?_ ?_ ?_; kernel_rfl; kernel_rfl; conv => whnf) | (refine ⟨cells_b _, ?_⟩; conv => whnf) | (refine ⟨runeB _, rfl, by omega, ?_⟩; conv => whnf) | (refine ask (by omega) ?_; conv => whnf) | (refine brd (fun h => ?_) (fun h => ?_) <;> conv => whnf) | (refine br (fun h => ?_) (fun h => ?_) <;> conv => whnf) | (refine ret_now hE ?_; conv => whnf) | (intro hlen; conv => whnf))
        exact next_keep [3, 4, 9, 10, 11] (k + 1, o ++ runeB 10) ⟨hlt, (show (o ++ runeB 10).length ≤ 4 * (k + 1) by rw [List.length_append]; omega), by rw [← hacc]; simp⟩ (show (runesL s).length - (k + 1) < (runesL s).length - k by omega) rfl
    by_cases h0 : x = 0
    · have hu := utf_bytes 65533 (by decide)
      have hrl := runeB_len 65533
      rw [if_neg h13, if_pos h0] at hacc
      conv => whnf
      repeat' (first | (refine brd_t (by first | assumption | omega) ?_; conv => whnf) | (refine brd_f (by first | assumption | omega) ?_; conv => whnf) | (refine ask (by first | assumption | omega) ?_; conv => whnf) | (refine fit64 (by omega) ?_; conv => whnf) | (refine fit (by simp only [kmin, kmax]; omega) ?_; conv => whnf) | (refine br_t (by assumption) ?_; conv => whnf) | (refine br_f (by assumption) ?_; conv => whnf) | (refine get_of (by assumption) ?_; conv => whnf) | (refine get_map (by assumption) ?_; conv => whnf) | (refine call_eq (hu) hC hasBody_49 ?_ ?_ ?_; kernel_rfl; kernel_rfl; conv => whnf) | (refine callq_eq (hu) hC hasBody_49 ?_ ?_ ?_; kernel_rfl; kernel_rfl; conv => whnf) | (refine ⟨cells_b _, ?_⟩; conv => whnf) | (refine ⟨runeB _, rfl, by omega, ?_⟩; conv => whnf) | (refine ask (by omega) ?_; conv => whnf) | (refine brd (fun h => ?_) (fun h => ?_) <;> conv => whnf) | (refine br (fun h => ?_) (fun h => ?_) <;> conv => whnf) | (refine ret_now hE ?_; conv => whnf) | (intro hlen; conv => whnf))
      exact next_keep [3, 4, 9, 10, 11] (k + 1, o ++ runeB 65533) ⟨hlt, (show (o ++ runeB 65533).length ≤ 4 * (k + 1) by rw [List.length_append]; omega), by rw [← hacc]; simp⟩ (show (runesL s).length - (k + 1) < (runesL s).length - k by omega) rfl
    · have hu := utf_bytes (x : Int) hxl
      have hrl := runeB_len (x : Int)
      rw [if_neg h13, if_neg h0] at hacc
      conv => whnf
      repeat' (first | (refine brd_t (by first | assumption | omega) ?_; conv => whnf) | (refine brd_f (by first | assumption | omega) ?_; conv => whnf) | (refine ask (by first | assumption | omega) ?_; conv => whnf) | (refine fit64 (by omega) ?_; conv => whnf) | (refine fit (by simp only [kmin, kmax]; omega) ?_; conv => whnf) | (refine br_t (by assumption) ?_; conv => whnf) | (refine br_f (by assumption) ?_; conv => whnf) | (refine get_of (by assumption) ?_; conv => whnf) | (refine get_map (by assumption) ?_; conv => whnf) | (refine call_eq (hu) hC hasBody_49 ?_ ?_ ?_; kernel_rfl; kernel_rfl; conv => whnf) | (refine callq_eq (hu) hC hasBody_49 ?_ ?_ ?_; kernel_rfl; kernel_rfl; conv => whnf) | (refine ⟨cells_b _, ?_⟩; conv => whnf) | (refine ⟨runeB _, rfl, by omega, ?_⟩; conv => whnf) | (refine ask (by omega) ?_; conv => whnf) | (refine brd (fun h => ?_) (fun h => ?_) <;> conv => whnf) | (refine br (fun h => ?_) (fun h => ?_) <;> conv => whnf) | (refine ret_now hE ?_; conv => whnf) | (intro hlen; conv => whnf))
      exact next_keep [3, 4, 9, 10, 11] (k + 1, o ++ runeB (x : Int)) ⟨hlt, (show (o ++ runeB (x : Int)).length ≤ 4 * (k + 1) by rw [List.length_append]; omega), by rw [← hacc]; simp⟩ (show (runesL s).length - (k + 1) < (runesL s).length - k by omega) rfl
  · conv => whnf
    repeat' (first | (refine brd_t (by first | assumption | omega) ?_; conv => whnf) | (refine brd_f (by first | assumption | omega) ?_; conv => whnf) | (refine ask (by first | assumption | omega) ?_; conv => whnf) | (refine fit64 (by omega) ?_; conv => whnf) | (refine fit (by simp only [kmin, kmax]; omega) ?_; conv => whnf) | (refine br_t (by assumption) ?_; conv => whnf) | (refine br_f (by assumption) ?_; conv => whnf) | (refine get_of (by assumption) ?_; conv => whnf) | (refine get_map (by assumption) ?_; conv => whnf) | (refine brd (fun h => ?_) (fun h => ?_) <;> conv => whnf) | (refine br (fun h => ?_) (fun h => ?_) <;> conv => whnf) | (refine ret_now hE ?_; conv => whnf) | (intro hlen; conv => whnf))
    exact ⟨rfl, by rw [← hacc, List.drop_of_length_le (by omega)]; simp [cleanR]⟩
theorem utfCleans_law (s : List UInt8) (hs : s.length ≤ 1048576) : Fn1 Try.prog 9 [.str s] (fun r => r = .bool true) := by
  have h1 := utf_clean s hs
  have h2 := doc_clean s hs
  refine fn1E (T := Try.tt) Try.func9 rfl tt_all follows_all ?_ ?_ fun C hC hE => ?_
  · kernel_rfl
  · exact Nat.le_of_ble_eq_true (by kernel_rfl)
  conv => whnf
  repeat' (first | (refine brd_t (by first | assumption | omega) ?_; conv => whnf) | (refine brd_f (by first | assumption | omega) ?_; conv => whnf) | (refine ask (by first | assumption | omega) ?_; conv => whnf) | (refine fit64 (by omega) ?_; conv => whnf) | (refine fit (by simp only [kmin, kmax]; omega) ?_; conv => whnf) | (refine br_t (by assumption) ?_; conv => whnf) | (refine br_f (by assumption) ?_; conv => whnf) | (refine get_of (by assumption) ?_; conv => whnf) | (refine get_map (by assumption) ?_; conv => whnf) | (refine brd_t rfl ?_; conv => whnf) | (refine call_eq (h1) hC hasBody_27 ?_ ?_ ?_; kernel_rfl; kernel_rfl; conv => whnf) | (refine callq_eq (h1) hC hasBody_27 ?_ ?_ ?_; kernel_rfl; kernel_rfl; conv => whnf) | (refine call_eq (h2) hC hasBody_28 ?_ ?_ ?_; kernel_rfl; kernel_rfl; conv => whnf) | (refine callq_eq (h2) hC hasBody_28 ?_ ?_ ?_; kernel_rfl; kernel_rfl; conv => whnf) | (refine brd (fun h => ?_) (fun h => ?_) <;> conv => whnf) | (refine br (fun h => ?_) (fun h => ?_) <;> conv => whnf) | (refine ret_now hE ?_; conv => whnf) | (intro hlen; conv => whnf))
  exact ⟨rfl, rfl⟩
end Go.Proofs.Yteabokphchpifaa
