/- pick.Text and the document's PickText, walked; the law PickTexts. No conditions. -/
import Derived.Test.YtcfinfdkmpgaaaaPick
set_option linter.unusedSimpArgs false
set_option linter.unusedVariables false
set_option maxRecDepth 100000
namespace Go.Proofs.Ytcfinfdkmpgaaaa
open Go.RowKit

def preT (k : Nat) (d : Bool) : List UInt8 := if k = 0 then [] else if d then [32] else [32, 62, 32]
def pnameT (n : List UInt8) : List UInt8 := if n = [] then [42] else n
def pattrT (a : List UInt8) : List UInt8 := if a = [] then [] else [91] ++ a ++ [93]
def txtFrom : Nat → List Pk → List UInt8
  | _, [] => []
  | k, p :: r => preT k p.2.2 ++ pnameT p.1 ++ pattrT p.2.1 ++ txtFrom (k + 1) r
theorem txt_step {l : List Pk} {k : Nat} {p : Pk} (hx : l[k]? = some p) : txtFrom k (l.drop k) = preT k p.2.2 ++ pnameT p.1 ++ pattrT p.2.1 ++ txtFrom (k + 1) (l.drop (k + 1)) := by
  have hk : k < l.length := (List.getElem?_eq_some_iff.1 hx).1
  rw [List.drop_eq_getElem_cons hk, (List.getElem?_eq_some_iff.1 hx).2]
  rfl
theorem txt_end {l : List Pk} {k : Nat} (h : l.length ≤ k) : txtFrom k (l.drop k) = [] := by
  rw [List.drop_eq_nil_of_le h]; rfl
def pickR (l : List Pk) : V := if pickF l = 0 then .tup [.str (txtFrom 0 l), .int .i64 0] else .tup [.str [], .int .i64 (pickF l)]
theorem pickF_ok {l : List Pk} (h : pickF l = 0) : l.length ≠ 0 ∧ l.length ≤ 10 ∧ ∀ p ∈ l, pickBad p = false := by
  unfold pickF at h
  by_cases h1 : l.length = 0
  · rw [if_pos h1] at h; cases h
  · rw [if_neg h1] at h
    by_cases h2 : 10 < l.length
    · rw [if_pos h2] at h; cases h
    · rw [if_neg h2] at h
      by_cases h3 : l.any pickBad = true
      · rw [if_pos h3] at h; cases h
      · refine ⟨h1, by omega, fun p hp => ?_⟩
        cases hb : pickBad p with
        | false => rfl
        | true => exact absurd (List.any_eq_true.2 ⟨p, hp, hb⟩) h3
set_option maxHeartbeats 16000000 in
theorem pick_text (l : List Pk) (h10 : l.length ≤ 10) (hg : ∀ p ∈ l, pickBad p = false) : Fn1 Try.prog 49 [.lst (l.map pickA)] (fun r => r = .str (txtFrom 0 l)) := by
  have hlm : (l.map pickA).length = l.length := by simp
  refine fn1E (T := Try.tt) Try.func49 rfl tt_all follows_all ?_ ?_ fun C hC hE => ?_
  · kernel_rfl
  · exact Nat.le_of_ble_eq_true (by kernel_rfl)
  conv => whnf
  repeat' (first | (refine brd_t (by first | assumption | omega) ?_; conv => whnf) | (refine brd_f (by first | assumption | omega) ?_; conv => whnf) | (refine ask (by first | assumption | omega) ?_; conv => whnf) | (refine fit64 (by omega) ?_; conv => whnf) | (refine fit (by simp only [kmin, kmax]; omega) ?_; conv => whnf) | (refine br_t (by assumption) ?_; conv => whnf) | (refine br_f (by assumption) ?_; conv => whnf) | (refine get_of (by assumption) ?_; conv => whnf) | (refine get_map (by assumption) ?_; conv => whnf) | (refine brd (fun h => ?_) (fun h => ?_) <;> conv => whnf) | (refine br (fun h => ?_) (fun h => ?_) <;> conv => whnf) | (refine ret_now hE ?_; conv => whnf) | (intro hlen; conv => whnf))
  refine loopE (fun ((k, o) : Nat × List UInt8) => ⟨42, [(3, .ptr 0 0 0), (6, .lst (l.map pickA)), (7, .int .i64 (l.map pickA).length), (8, .int .i64 k)], [some (.bld 92 (some (1, o.length))), some (.buf 5 o)]⟩)
    (fun (k, o) => k ≤ l.length ∧ o.length ≤ 30 * k ∧ o ++ txtFrom k (l.drop k) = txtFrom 0 l) (fun (k, _) => l.length - k) (0, []) hE ?_ ?_ ⟨Nat.zero_le _, Nat.le_refl _, by simp⟩ ?_
  · kernel_rfl
  · exact up_buf 0 5 rfl (at_keep [3, 6, 7, 8] rfl)
  rintro ⟨k, o⟩ ⟨hk, ho, hI⟩
  by_cases hlt : k < l.length
  · obtain ⟨p, hx⟩ : ∃ x, l[k]? = some x := ⟨_, List.getElem?_eq_getElem hlt⟩
    have hgp := hg p (List.mem_of_getElem? hx)
    have hst := txt_step hx
    obtain ⟨n, a, d⟩ := p
    have hno : oddS n = false := by unfold pickBad at hgp; simp at hgp; exact hgp.1
    have hao : oddS a = false := by unfold pickBad at hgp; simp at hgp; exact hgp.2
    have hn12 := odd_len hno
    have ha12 := odd_len hao
    by_cases hk0 : k = 0
    all_goals by_cases hn0 : n = []
    all_goals by_cases ha0 : a = []
    all_goals cases d
    · conv => whnf
      repeat' (first | (refine brd_t (by first | assumption | omega) ?_; conv => whnf) | (refine brd_f (by first | assumption | omega) ?_; conv => whnf) | (refine ask (by first | assumption | omega) ?_; conv => whnf) | (refine fit64 (by omega) ?_; conv => whnf) | (refine fit (by simp only [kmin, kmax]; omega) ?_; conv => whnf) | (refine br_t (by assumption) ?_; conv => whnf) | (refine br_f (by assumption) ?_; conv => whnf) | (refine get_of (by assumption) ?_; conv => whnf) | (refine get_map (by assumption) ?_; conv => whnf) | (refine call_ws hC 0 1 (by decide) ?_ rfl rfl rfl ?_; (simp; omega); conv => whnf) | (refine ask ?_ ?_; (simp; omega); conv => whnf) | (refine brd (fun h => ?_) (fun h => ?_) <;> conv => whnf) | (refine br (fun h => ?_) (fun h => ?_) <;> conv => whnf) | (refine ret_now hE ?_; conv => whnf) | (intro hlen; conv => whnf))
      exact next_drop [3, 6, 7, 8] [2] (k + 1, o ++ [42]) ⟨hlt, by simp; omega, by rw [← hI, hst]; simp [preT, pnameT, pattrT, hk0, hn0, ha0]⟩ (show l.length - (k + 1) < l.length - k by omega) rfl
    · conv => whnf
      repeat' (first | (refine brd_t (by first | assumption | omega) ?_; conv => whnf) | (refine brd_f (by first | assumption | omega) ?_; conv => whnf) | (refine ask (by first | assumption | omega) ?_; conv => whnf) | (refine fit64 (by omega) ?_; conv => whnf) | (refine fit (by simp only [kmin, kmax]; omega) ?_; conv => whnf) | (refine br_t (by assumption) ?_; conv => whnf) | (refine br_f (by assumption) ?_; conv => whnf) | (refine get_of (by assumption) ?_; conv => whnf) | (refine get_map (by assumption) ?_; conv => whnf) | (refine call_ws hC 0 1 (by decide) ?_ rfl rfl rfl ?_; (simp; omega); conv => whnf) | (refine ask ?_ ?_; (simp; omega); conv => whnf) | (refine brd (fun h => ?_) (fun h => ?_) <;> conv => whnf) | (refine br (fun h => ?_) (fun h => ?_) <;> conv => whnf) | (refine ret_now hE ?_; conv => whnf) | (intro hlen; conv => whnf))
      exact next_drop [3, 6, 7, 8] [2] (k + 1, o ++ [42]) ⟨hlt, by simp; omega, by rw [← hI, hst]; simp [preT, pnameT, pattrT, hk0, hn0, ha0]⟩ (show l.length - (k + 1) < l.length - k by omega) rfl
    · conv => whnf
      repeat' (first | (refine brd_t (by first | assumption | omega) ?_; conv => whnf) | (refine brd_f (by first | assumption | omega) ?_; conv => whnf) | (refine ask (by first | assumption | omega) ?_; conv => whnf) | (refine fit64 (by omega) ?_; conv => whnf) | (refine fit (by simp only [kmin, kmax]; omega) ?_; conv => whnf) | (refine br_t (by assumption) ?_; conv => whnf) | (refine br_f (by assumption) ?_; conv => whnf) | (refine get_of (by assumption) ?_; conv => whnf) | (refine get_map (by assumption) ?_; conv => whnf) | (refine call_ws hC 0 1 (by decide) ?_ rfl rfl rfl ?_; (simp; omega); conv => whnf) | (refine ask ?_ ?_; (simp; omega); conv => whnf) | (refine brd (fun h => ?_) (fun h => ?_) <;> conv => whnf) | (refine br (fun h => ?_) (fun h => ?_) <;> conv => whnf) | (refine ret_now hE ?_; conv => whnf) | (intro hlen; conv => whnf))
      exact next_drop [3, 6, 7, 8] [2] (k + 1, o ++ [42] ++ ([91] ++ a ++ [93])) ⟨hlt, by simp; omega, by rw [← hI, hst]; simp [preT, pnameT, pattrT, hk0, hn0, ha0]⟩ (show l.length - (k + 1) < l.length - k by omega) rfl
    · conv => whnf
      repeat' (first | (refine brd_t (by first | assumption | omega) ?_; conv => whnf) | (refine brd_f (by first | assumption | omega) ?_; conv => whnf) | (refine ask (by first | assumption | omega) ?_; conv => whnf) | (refine fit64 (by omega) ?_; conv => whnf) | (refine fit (by simp only [kmin, kmax]; omega) ?_; conv => whnf) | (refine br_t (by assumption) ?_; conv => whnf) | (refine br_f (by assumption) ?_; conv => whnf) | (refine get_of (by assumption) ?_; conv => whnf) | (refine get_map (by assumption) ?_; conv => whnf) | (refine call_ws hC 0 1 (by decide) ?_ rfl rfl rfl ?_; (simp; omega); conv => whnf) | (refine ask ?_ ?_; (simp; omega); conv => whnf) | (refine brd (fun h => ?_) (fun h => ?_) <;> conv => whnf) | (refine br (fun h => ?_) (fun h => ?_) <;> conv => whnf) | (refine ret_now hE ?_; conv => whnf) | (intro hlen; conv => whnf))
      exact next_drop [3, 6, 7, 8] [2] (k + 1, o ++ [42] ++ ([91] ++ a ++ [93])) ⟨hlt, by simp; omega, by rw [← hI, hst]; simp [preT, pnameT, pattrT, hk0, hn0, ha0]⟩ (show l.length - (k + 1) < l.length - k by omega) rfl
    · conv => whnf
      repeat' (first | (refine brd_t (by first | assumption | omega) ?_; conv => whnf) | (refine brd_f (by first | assumption | omega) ?_; conv => whnf) | (refine ask (by first | assumption | omega) ?_; conv => whnf) | (refine fit64 (by omega) ?_; conv => whnf) | (refine fit (by simp only [kmin, kmax]; omega) ?_; conv => whnf) | (refine br_t (by assumption) ?_; conv => whnf) | (refine br_f (by assumption) ?_; conv => whnf) | (refine get_of (by assumption) ?_; conv => whnf) | (refine get_map (by assumption) ?_; conv => whnf) | (refine call_ws hC 0 1 (by decide) ?_ rfl rfl rfl ?_; (simp; omega); conv => whnf) | (refine ask ?_ ?_; (simp; omega); conv => whnf) | (refine brd (fun h => ?_) (fun h => ?_) <;> conv => whnf) | (refine br (fun h => ?_) (fun h => ?_) <;> conv => whnf) | (refine ret_now hE ?_; conv => whnf) | (intro hlen; conv => whnf))
      exact next_drop [3, 6, 7, 8] [2] (k + 1, o ++ n) ⟨hlt, by simp; omega, by rw [← hI, hst]; simp [preT, pnameT, pattrT, hk0, hn0, ha0]⟩ (show l.length - (k + 1) < l.length - k by omega) rfl
    · conv => whnf
      repeat' (first | (refine brd_t (by first | assumption | omega) ?_; conv => whnf) | (refine brd_f (by first | assumption | omega) ?_; conv => whnf) | (refine ask (by first | assumption | omega) ?_; conv => whnf) | (refine fit64 (by omega) ?_; conv => whnf) | (refine fit (by simp only [kmin, kmax]; omega) ?_; conv => whnf) | (refine br_t (by assumption) ?_; conv => whnf) | (refine br_f (by assumption) ?_; conv => whnf) | (refine get_of (by assumption) ?_; conv => whnf) | (refine get_map (by assumption) ?_; conv => whnf) | (refine call_ws hC 0 1 (by decide) ?_ rfl rfl rfl ?_; (simp; omega); conv => whnf) | (refine ask ?_ ?_; (simp; omega); conv => whnf) | (refine brd (fun h => ?_) (fun h => ?_) <;> conv => whnf) | (refine br (fun h => ?_) (fun h => ?_) <;> conv => whnf) | (refine ret_now hE ?_; conv => whnf) | (intro hlen; conv => whnf))
      exact next_drop [3, 6, 7, 8] [2] (k + 1, o ++ n) ⟨hlt, by simp; omega, by rw [← hI, hst]; simp [preT, pnameT, pattrT, hk0, hn0, ha0]⟩ (show l.length - (k + 1) < l.length - k by omega) rfl
    · conv => whnf
      repeat' (first | (refine brd_t (by first | assumption | omega) ?_; conv => whnf) | (refine brd_f (by first | assumption | omega) ?_; conv => whnf) | (refine ask (by first | assumption | omega) ?_; conv => whnf) | (refine fit64 (by omega) ?_; conv => whnf) | (refine fit (by simp only [kmin, kmax]; omega) ?_; conv => whnf) | (refine br_t (by assumption) ?_; conv => whnf) | (refine br_f (by assumption) ?_; conv => whnf) | (refine get_of (by assumption) ?_; conv => whnf) | (refine get_map (by assumption) ?_; conv => whnf) | (refine call_ws hC 0 1 (by decide) ?_ rfl rfl rfl ?_; (simp; omega); conv => whnf) | (refine ask ?_ ?_; (simp; omega); conv => whnf) | (refine brd (fun h => ?_) (fun h => ?_) <;> conv => whnf) | (refine br (fun h => ?_) (fun h => ?_) <;> conv => whnf) | (refine ret_now hE ?_; conv => whnf) | (intro hlen; conv => whnf))
      exact next_drop [3, 6, 7, 8] [2] (k + 1, o ++ n ++ ([91] ++ a ++ [93])) ⟨hlt, by simp; omega, by rw [← hI, hst]; simp [preT, pnameT, pattrT, hk0, hn0, ha0]⟩ (show l.length - (k + 1) < l.length - k by omega) rfl
    · conv => whnf
      repeat' (first | (refine brd_t (by first | assumption | omega) ?_; conv => whnf) | (refine brd_f (by first | assumption | omega) ?_; conv => whnf) | (refine ask (by first | assumption | omega) ?_; conv => whnf) | (refine fit64 (by omega) ?_; conv => whnf) | (refine fit (by simp only [kmin, kmax]; omega) ?_; conv => whnf) | (refine br_t (by assumption) ?_; conv => whnf) | (refine br_f (by assumption) ?_; conv => whnf) | (refine get_of (by assumption) ?_; conv => whnf) | (refine get_map (by assumption) ?_; conv => whnf) | (refine call_ws hC 0 1 (by decide) ?_ rfl rfl rfl ?_; (simp; omega); conv => whnf) | (refine ask ?_ ?_; (simp; omega); conv => whnf) | (refine brd (fun h => ?_) (fun h => ?_) <;> conv => whnf) | (refine br (fun h => ?_) (fun h => ?_) <;> conv => whnf) | (refine ret_now hE ?_; conv => whnf) | (intro hlen; conv => whnf))
      exact next_drop [3, 6, 7, 8] [2] (k + 1, o ++ n ++ ([91] ++ a ++ [93])) ⟨hlt, by simp; omega, by rw [← hI, hst]; simp [preT, pnameT, pattrT, hk0, hn0, ha0]⟩ (show l.length - (k + 1) < l.length - k by omega) rfl
    · conv => whnf
      repeat' (first | (refine brd_t (by first | assumption | omega) ?_; conv => whnf) | (refine brd_f (by first | assumption | omega) ?_; conv => whnf) | (refine ask (by first | assumption | omega) ?_; conv => whnf) | (refine fit64 (by omega) ?_; conv => whnf) | (refine fit (by simp only [kmin, kmax]; omega) ?_; conv => whnf) | (refine br_t (by assumption) ?_; conv => whnf) | (refine br_f (by assumption) ?_; conv => whnf) | (refine get_of (by assumption) ?_; conv => whnf) | (refine get_map (by assumption) ?_; conv => whnf) | (refine call_ws hC 0 1 (by decide) ?_ rfl rfl rfl ?_; (simp; omega); conv => whnf) | (refine ask ?_ ?_; (simp; omega); conv => whnf) | (refine brd (fun h => ?_) (fun h => ?_) <;> conv => whnf) | (refine br (fun h => ?_) (fun h => ?_) <;> conv => whnf) | (refine ret_now hE ?_; conv => whnf) | (intro hlen; conv => whnf))
      exact next_drop [3, 6, 7, 8] [2] (k + 1, o ++ [32, 62, 32] ++ [42]) ⟨hlt, by simp; omega, by rw [← hI, hst]; simp [preT, pnameT, pattrT, hk0, hn0, ha0]⟩ (show l.length - (k + 1) < l.length - k by omega) rfl
    · conv => whnf
      repeat' (first | (refine brd_t (by first | assumption | omega) ?_; conv => whnf) | (refine brd_f (by first | assumption | omega) ?_; conv => whnf) | (refine ask (by first | assumption | omega) ?_; conv => whnf) | (refine fit64 (by omega) ?_; conv => whnf) | (refine fit (by simp only [kmin, kmax]; omega) ?_; conv => whnf) | (refine br_t (by assumption) ?_; conv => whnf) | (refine br_f (by assumption) ?_; conv => whnf) | (refine get_of (by assumption) ?_; conv => whnf) | (refine get_map (by assumption) ?_; conv => whnf) | (refine call_ws hC 0 1 (by decide) ?_ rfl rfl rfl ?_; (simp; omega); conv => whnf) | (refine ask ?_ ?_; (simp; omega); conv => whnf) | (refine brd (fun h => ?_) (fun h => ?_) <;> conv => whnf) | (refine br (fun h => ?_) (fun h => ?_) <;> conv => whnf) | (refine ret_now hE ?_; conv => whnf) | (intro hlen; conv => whnf))
      exact next_drop [3, 6, 7, 8] [2] (k + 1, o ++ [32] ++ [42]) ⟨hlt, by simp; omega, by rw [← hI, hst]; simp [preT, pnameT, pattrT, hk0, hn0, ha0]⟩ (show l.length - (k + 1) < l.length - k by omega) rfl
    · conv => whnf
      repeat' (first | (refine brd_t (by first | assumption | omega) ?_; conv => whnf) | (refine brd_f (by first | assumption | omega) ?_; conv => whnf) | (refine ask (by first | assumption | omega) ?_; conv => whnf) | (refine fit64 (by omega) ?_; conv => whnf) | (refine fit (by simp only [kmin, kmax]; omega) ?_; conv => whnf) | (refine br_t (by assumption) ?_; conv => whnf) | (refine br_f (by assumption) ?_; conv => whnf) | (refine get_of (by assumption) ?_; conv => whnf) | (refine get_map (by assumption) ?_; conv => whnf) | (refine call_ws hC 0 1 (by decide) ?_ rfl rfl rfl ?_; (simp; omega); conv => whnf) | (refine ask ?_ ?_; (simp; omega); conv => whnf) | (refine brd (fun h => ?_) (fun h => ?_) <;> conv => whnf) | (refine br (fun h => ?_) (fun h => ?_) <;> conv => whnf) | (refine ret_now hE ?_; conv => whnf) | (intro hlen; conv => whnf))
      exact next_drop [3, 6, 7, 8] [2] (k + 1, o ++ [32, 62, 32] ++ [42] ++ ([91] ++ a ++ [93])) ⟨hlt, by simp; omega, by rw [← hI, hst]; simp [preT, pnameT, pattrT, hk0, hn0, ha0]⟩ (show l.length - (k + 1) < l.length - k by omega) rfl
    · conv => whnf
      repeat' (first | (refine brd_t (by first | assumption | omega) ?_; conv => whnf) | (refine brd_f (by first | assumption | omega) ?_; conv => whnf) | (refine ask (by first | assumption | omega) ?_; conv => whnf) | (refine fit64 (by omega) ?_; conv => whnf) | (refine fit (by simp only [kmin, kmax]; omega) ?_; conv => whnf) | (refine br_t (by assumption) ?_; conv => whnf) | (refine br_f (by assumption) ?_; conv => whnf) | (refine get_of (by assumption) ?_; conv => whnf) | (refine get_map (by assumption) ?_; conv => whnf) | (refine call_ws hC 0 1 (by decide) ?_ rfl rfl rfl ?_; (simp; omega); conv => whnf) | (refine ask ?_ ?_; (simp; omega); conv => whnf) | (refine brd (fun h => ?_) (fun h => ?_) <;> conv => whnf) | (refine br (fun h => ?_) (fun h => ?_) <;> conv => whnf) | (refine ret_now hE ?_; conv => whnf) | (intro hlen; conv => whnf))
      exact next_drop [3, 6, 7, 8] [2] (k + 1, o ++ [32] ++ [42] ++ ([91] ++ a ++ [93])) ⟨hlt, by simp; omega, by rw [← hI, hst]; simp [preT, pnameT, pattrT, hk0, hn0, ha0]⟩ (show l.length - (k + 1) < l.length - k by omega) rfl
    · conv => whnf
      repeat' (first | (refine brd_t (by first | assumption | omega) ?_; conv => whnf) | (refine brd_f (by first | assumption | omega) ?_; conv => whnf) | (refine ask (by first | assumption | omega) ?_; conv => whnf) | (refine fit64 (by omega) ?_; conv => whnf) | (refine fit (by simp only [kmin, kmax]; omega) ?_; conv => whnf) | (refine br_t (by assumption) ?_; conv => whnf) | (refine br_f (by assumption) ?_; conv => whnf) | (refine get_of (by assumption) ?_; conv => whnf) | (refine get_map (by assumption) ?_; conv => whnf) | (refine call_ws hC 0 1 (by decide) ?_ rfl rfl rfl ?_; (simp; omega); conv => whnf) | (refine ask ?_ ?_; (simp; omega); conv => whnf) | (refine brd (fun h => ?_) (fun h => ?_) <;> conv => whnf) | (refine br (fun h => ?_) (fun h => ?_) <;> conv => whnf) | (refine ret_now hE ?_; conv => whnf) | (intro hlen; conv => whnf))
      exact next_drop [3, 6, 7, 8] [2] (k + 1, o ++ [32, 62, 32] ++ n) ⟨hlt, by simp; omega, by rw [← hI, hst]; simp [preT, pnameT, pattrT, hk0, hn0, ha0]⟩ (show l.length - (k + 1) < l.length - k by omega) rfl
    · conv => whnf
      repeat' (first | (refine brd_t (by first | assumption | omega) ?_; conv => whnf) | (refine brd_f (by first | assumption | omega) ?_; conv => whnf) | (refine ask (by first | assumption | omega) ?_; conv => whnf) | (refine fit64 (by omega) ?_; conv => whnf) | (refine fit (by simp only [kmin, kmax]; omega) ?_; conv => whnf) | (refine br_t (by assumption) ?_; conv => whnf) | (refine br_f (by assumption) ?_; conv => whnf) | (refine get_of (by assumption) ?_; conv => whnf) | (refine get_map (by assumption) ?_; conv => whnf) | (refine call_ws hC 0 1 (by decide) ?_ rfl rfl rfl ?_; (simp; omega); conv => whnf) | (refine ask ?_ ?_; (simp; omega); conv => whnf) | (refine brd (fun h => ?_) (fun h => ?_) <;> conv => whnf) | (refine br (fun h => ?_) (fun h => ?_) <;> conv => whnf) | (refine ret_now hE ?_; conv => whnf) | (intro hlen; conv => whnf))
      exact next_drop [3, 6, 7, 8] [2] (k + 1, o ++ [32] ++ n) ⟨hlt, by simp; omega, by rw [← hI, hst]; simp [preT, pnameT, pattrT, hk0, hn0, ha0]⟩ (show l.length - (k + 1) < l.length - k by omega) rfl
    · conv => whnf
      repeat' (first | (refine brd_t (by first | assumption | omega) ?_; conv => whnf) | (refine brd_f (by first | assumption | omega) ?_; conv => whnf) | (refine ask (by first | assumption | omega) ?_; conv => whnf) | (refine fit64 (by omega) ?_; conv => whnf) | (refine fit (by simp only [kmin, kmax]; omega) ?_; conv => whnf) | (refine br_t (by assumption) ?_; conv => whnf) | (refine br_f (by assumption) ?_; conv => whnf) | (refine get_of (by assumption) ?_; conv => whnf) | (refine get_map (by assumption) ?_; conv => whnf) | (refine call_ws hC 0 1 (by decide) ?_ rfl rfl rfl ?_; (simp; omega); conv => whnf) | (refine ask ?_ ?_; (simp; omega); conv => whnf) | (refine brd (fun h => ?_) (fun h => ?_) <;> conv => whnf) | (refine br (fun h => ?_) (fun h => ?_) <;> conv => whnf) | (refine ret_now hE ?_; conv => whnf) | (intro hlen; conv => whnf))
      exact next_drop [3, 6, 7, 8] [2] (k + 1, o ++ [32, 62, 32] ++ n ++ ([91] ++ a ++ [93])) ⟨hlt, by simp; omega, by rw [← hI, hst]; simp [preT, pnameT, pattrT, hk0, hn0, ha0]⟩ (show l.length - (k + 1) < l.length - k by omega) rfl
    · conv => whnf
      repeat' (first | (refine brd_t (by first | assumption | omega) ?_; conv => whnf) | (refine brd_f (by first | assumption | omega) ?_; conv => whnf) | (refine ask (by first | assumption | omega) ?_; conv => whnf) | (refine fit64 (by omega) ?_; conv => whnf) | (refine fit (by simp only [kmin, kmax]; omega) ?_; conv => whnf) | (refine br_t (by assumption) ?_; conv => whnf) | (refine br_f (by assumption) ?_; conv => whnf) | (refine get_of (by assumption) ?_; conv => whnf) | (refine get_map (by assumption) ?_; conv => whnf) | (refine call_ws hC 0 1 (by decide) ?_ rfl rfl rfl ?_; (simp; omega); conv => whnf) | (refine ask ?_ ?_; (simp; omega); conv => whnf) | (refine brd (fun h => ?_) (fun h => ?_) <;> conv => whnf) | (refine br (fun h => ?_) (fun h => ?_) <;> conv => whnf) | (refine ret_now hE ?_; conv => whnf) | (intro hlen; conv => whnf))
      exact next_drop [3, 6, 7, 8] [2] (k + 1, o ++ [32] ++ n ++ ([91] ++ a ++ [93])) ⟨hlt, by simp; omega, by rw [← hI, hst]; simp [preT, pnameT, pattrT, hk0, hn0, ha0]⟩ (show l.length - (k + 1) < l.length - k by omega) rfl
  · conv => whnf
    repeat' (first | (refine brd_t (by first | assumption | omega) ?_; conv => whnf) | (refine brd_f (by first | assumption | omega) ?_; conv => whnf) | (refine ask (by first | assumption | omega) ?_; conv => whnf) | (refine fit64 (by omega) ?_; conv => whnf) | (refine fit (by simp only [kmin, kmax]; omega) ?_; conv => whnf) | (refine br_t (by assumption) ?_; conv => whnf) | (refine br_f (by assumption) ?_; conv => whnf) | (refine get_of (by assumption) ?_; conv => whnf) | (refine get_map (by assumption) ?_; conv => whnf) | (refine call_str hC 0 1 (by decide) rfl rfl rfl ?_; conv => whnf) | (refine brd (fun h => ?_) (fun h => ?_) <;> conv => whnf) | (refine br (fun h => ?_) (fun h => ?_) <;> conv => whnf) | (refine ret_now hE ?_; conv => whnf) | (intro hlen; conv => whnf))
    refine ⟨rfl, ?_⟩
    rw [txt_end (by omega), List.append_nil] at hI
    rw [hI]
set_option maxHeartbeats 16000000 in
theorem doc_pick_text (l : List Pk) (h10 : l.length ≤ 10) (hg : ∀ p ∈ l, pickBad p = false) (hf0 : pickF l = 0) : Fn1 Try.prog 24 [.lst (l.map pickA)] (fun r => r = .tup [.str (txtFrom 0 l), .int .i64 0]) := by
  have hlm : (l.map pickA).length = l.length := by simp
  have hf := pick_fault l
  rw [hf0] at hf
  refine fn1E (T := Try.tt) Try.func24 rfl tt_all follows_all ?_ ?_ fun C hC hE => ?_
  · kernel_rfl
  · exact Nat.le_of_ble_eq_true (by kernel_rfl)
  conv => whnf
  repeat' (first | (refine brd_t (by first | assumption | omega) ?_; conv => whnf) | (refine brd_f (by first | assumption | omega) ?_; conv => whnf) | (refine ask (by first | assumption | omega) ?_; conv => whnf) | (refine fit64 (by omega) ?_; conv => whnf) | (refine fit (by simp only [kmin, kmax]; omega) ?_; conv => whnf) | (refine br_t (by assumption) ?_; conv => whnf) | (refine br_f (by assumption) ?_; conv => whnf) | (refine get_of (by assumption) ?_; conv => whnf) | (refine get_map (by assumption) ?_; conv => whnf) | (refine call_eq (hf) hC hasBody_46 ?_ ?_ ?_; kernel_rfl; kernel_rfl; conv => whnf) | (refine callq_eq (hf) hC hasBody_46 ?_ ?_ ?_; kernel_rfl; kernel_rfl; conv => whnf) | (refine brd (fun h => ?_) (fun h => ?_) <;> conv => whnf) | (refine br (fun h => ?_) (fun h => ?_) <;> conv => whnf) | (refine ret_now hE ?_; conv => whnf) | (intro hlen; conv => whnf))
  refine loopE (fun ((k, o) : Nat × List UInt8) => ⟨48, [(5, .str o), (14, .lst (l.map pickA)), (15, .int .i64 (l.map pickA).length), (16, .int .i64 k)], []⟩)
    (fun (k, o) => k ≤ l.length ∧ o.length ≤ 30 * k ∧ o ++ txtFrom k (l.drop k) = txtFrom 0 l) (fun (k, _) => l.length - k) (0, []) hE ?_ ?_ ⟨Nat.zero_le _, Nat.le_refl _, by simp⟩ ?_
  · kernel_rfl
  · exact at_keep [5, 14, 15, 16] rfl
  rintro ⟨k, o⟩ ⟨hk, ho, hI⟩
  by_cases hlt : k < l.length
  · obtain ⟨p, hx⟩ : ∃ x, l[k]? = some x := ⟨_, List.getElem?_eq_getElem hlt⟩
    have hgp := hg p (List.mem_of_getElem? hx)
    have hst := txt_step hx
    obtain ⟨n, a, d⟩ := p
    have hno : oddS n = false := by unfold pickBad at hgp; simp at hgp; exact hgp.1
    have hao : oddS a = false := by unfold pickBad at hgp; simp at hgp; exact hgp.2
    have hn12 := odd_len hno
    have ha12 := odd_len hao
    by_cases hk0 : k = 0
    all_goals by_cases hn0 : n = []
    all_goals by_cases ha0 : a = []
    all_goals cases d
    · conv => whnf
      repeat' (first | (refine brd_t (by first | assumption | omega) ?_; conv => whnf) | (refine brd_f (by first | assumption | omega) ?_; conv => whnf) | (refine ask (by first | assumption | omega) ?_; conv => whnf) | (refine fit64 (by omega) ?_; conv => whnf) | (refine fit (by simp only [kmin, kmax]; omega) ?_; conv => whnf) | (refine br_t (by assumption) ?_; conv => whnf) | (refine br_f (by assumption) ?_; conv => whnf) | (refine get_of (by assumption) ?_; conv => whnf) | (refine get_map (by assumption) ?_; conv => whnf) | (refine ask ?_ ?_; (simp; omega); conv => whnf) | (refine brd (fun h => ?_) (fun h => ?_) <;> conv => whnf) | (refine br (fun h => ?_) (fun h => ?_) <;> conv => whnf) | (refine ret_now hE ?_; conv => whnf) | (intro hlen; conv => whnf))
      exact next_drop [5, 14, 15, 16] [0] (k + 1, o ++ [42]) ⟨hlt, by simp; omega, by rw [← hI, hst]; simp [preT, pnameT, pattrT, hk0, hn0, ha0]⟩ (show l.length - (k + 1) < l.length - k by omega) rfl
    · conv => whnf
      repeat' (first | (refine brd_t (by first | assumption | omega) ?_; conv => whnf) | (refine brd_f (by first | assumption | omega) ?_; conv => whnf) | (refine ask (by first | assumption | omega) ?_; conv => whnf) | (refine fit64 (by omega) ?_; conv => whnf) | (refine fit (by simp only [kmin, kmax]; omega) ?_; conv => whnf) | (refine br_t (by assumption) ?_; conv => whnf) | (refine br_f (by assumption) ?_; conv => whnf) | (refine get_of (by assumption) ?_; conv => whnf) | (refine get_map (by assumption) ?_; conv => whnf) | (refine ask ?_ ?_; (simp; omega); conv => whnf) | (refine brd (fun h => ?_) (fun h => ?_) <;> conv => whnf) | (refine br (fun h => ?_) (fun h => ?_) <;> conv => whnf) | (refine ret_now hE ?_; conv => whnf) | (intro hlen; conv => whnf))
      exact next_drop [5, 14, 15, 16] [0] (k + 1, o ++ [42]) ⟨hlt, by simp; omega, by rw [← hI, hst]; simp [preT, pnameT, pattrT, hk0, hn0, ha0]⟩ (show l.length - (k + 1) < l.length - k by omega) rfl
    · conv => whnf
      repeat' (first | (refine brd_t (by first | assumption | omega) ?_; conv => whnf) | (refine brd_f (by first | assumption | omega) ?_; conv => whnf) | (refine ask (by first | assumption | omega) ?_; conv => whnf) | (refine fit64 (by omega) ?_; conv => whnf) | (refine fit (by simp only [kmin, kmax]; omega) ?_; conv => whnf) | (refine br_t (by assumption) ?_; conv => whnf) | (refine br_f (by assumption) ?_; conv => whnf) | (refine get_of (by assumption) ?_; conv => whnf) | (refine get_map (by assumption) ?_; conv => whnf) | (refine ask ?_ ?_; (simp; omega); conv => whnf) | (refine brd (fun h => ?_) (fun h => ?_) <;> conv => whnf) | (refine br (fun h => ?_) (fun h => ?_) <;> conv => whnf) | (refine ret_now hE ?_; conv => whnf) | (intro hlen; conv => whnf))
      exact next_drop [5, 14, 15, 16] [0] (k + 1, o ++ ([42] ++ ([91] ++ a ++ [93]))) ⟨hlt, by simp; omega, by rw [← hI, hst]; simp [preT, pnameT, pattrT, hk0, hn0, ha0]⟩ (show l.length - (k + 1) < l.length - k by omega) rfl
    · conv => whnf
      repeat' (first | (refine brd_t (by first | assumption | omega) ?_; conv => whnf) | (refine brd_f (by first | assumption | omega) ?_; conv => whnf) | (refine ask (by first | assumption | omega) ?_; conv => whnf) | (refine fit64 (by omega) ?_; conv => whnf) | (refine fit (by simp only [kmin, kmax]; omega) ?_; conv => whnf) | (refine br_t (by assumption) ?_; conv => whnf) | (refine br_f (by assumption) ?_; conv => whnf) | (refine get_of (by assumption) ?_; conv => whnf) | (refine get_map (by assumption) ?_; conv => whnf) | (refine ask ?_ ?_; (simp; omega); conv => whnf) | (refine brd (fun h => ?_) (fun h => ?_) <;> conv => whnf) | (refine br (fun h => ?_) (fun h => ?_) <;> conv => whnf) | (refine ret_now hE ?_; conv => whnf) | (intro hlen; conv => whnf))
      exact next_drop [5, 14, 15, 16] [0] (k + 1, o ++ ([42] ++ ([91] ++ a ++ [93]))) ⟨hlt, by simp; omega, by rw [← hI, hst]; simp [preT, pnameT, pattrT, hk0, hn0, ha0]⟩ (show l.length - (k + 1) < l.length - k by omega) rfl
    · conv => whnf
      repeat' (first | (refine brd_t (by first | assumption | omega) ?_; conv => whnf) | (refine brd_f (by first | assumption | omega) ?_; conv => whnf) | (refine ask (by first | assumption | omega) ?_; conv => whnf) | (refine fit64 (by omega) ?_; conv => whnf) | (refine fit (by simp only [kmin, kmax]; omega) ?_; conv => whnf) | (refine br_t (by assumption) ?_; conv => whnf) | (refine br_f (by assumption) ?_; conv => whnf) | (refine get_of (by assumption) ?_; conv => whnf) | (refine get_map (by assumption) ?_; conv => whnf) | (refine ask ?_ ?_; (simp; omega); conv => whnf) | (refine brd (fun h => ?_) (fun h => ?_) <;> conv => whnf) | (refine br (fun h => ?_) (fun h => ?_) <;> conv => whnf) | (refine ret_now hE ?_; conv => whnf) | (intro hlen; conv => whnf))
      exact next_drop [5, 14, 15, 16] [0] (k + 1, o ++ n) ⟨hlt, by simp; omega, by rw [← hI, hst]; simp [preT, pnameT, pattrT, hk0, hn0, ha0]⟩ (show l.length - (k + 1) < l.length - k by omega) rfl
    · conv => whnf
      repeat' (first | (refine brd_t (by first | assumption | omega) ?_; conv => whnf) | (refine brd_f (by first | assumption | omega) ?_; conv => whnf) | (refine ask (by first | assumption | omega) ?_; conv => whnf) | (refine fit64 (by omega) ?_; conv => whnf) | (refine fit (by simp only [kmin, kmax]; omega) ?_; conv => whnf) | (refine br_t (by assumption) ?_; conv => whnf) | (refine br_f (by assumption) ?_; conv => whnf) | (refine get_of (by assumption) ?_; conv => whnf) | (refine get_map (by assumption) ?_; conv => whnf) | (refine ask ?_ ?_; (simp; omega); conv => whnf) | (refine brd (fun h => ?_) (fun h => ?_) <;> conv => whnf) | (refine br (fun h => ?_) (fun h => ?_) <;> conv => whnf) | (refine ret_now hE ?_; conv => whnf) | (intro hlen; conv => whnf))
      exact next_drop [5, 14, 15, 16] [0] (k + 1, o ++ n) ⟨hlt, by simp; omega, by rw [← hI, hst]; simp [preT, pnameT, pattrT, hk0, hn0, ha0]⟩ (show l.length - (k + 1) < l.length - k by omega) rfl
    · conv => whnf
      repeat' (first | (refine brd_t (by first | assumption | omega) ?_; conv => whnf) | (refine brd_f (by first | assumption | omega) ?_; conv => whnf) | (refine ask (by first | assumption | omega) ?_; conv => whnf) | (refine fit64 (by omega) ?_; conv => whnf) | (refine fit (by simp only [kmin, kmax]; omega) ?_; conv => whnf) | (refine br_t (by assumption) ?_; conv => whnf) | (refine br_f (by assumption) ?_; conv => whnf) | (refine get_of (by assumption) ?_; conv => whnf) | (refine get_map (by assumption) ?_; conv => whnf) | (refine ask ?_ ?_; (simp; omega); conv => whnf) | (refine brd (fun h => ?_) (fun h => ?_) <;> conv => whnf) | (refine br (fun h => ?_) (fun h => ?_) <;> conv => whnf) | (refine ret_now hE ?_; conv => whnf) | (intro hlen; conv => whnf))
      exact next_drop [5, 14, 15, 16] [0] (k + 1, o ++ (n ++ ([91] ++ a ++ [93]))) ⟨hlt, by simp; omega, by rw [← hI, hst]; simp [preT, pnameT, pattrT, hk0, hn0, ha0]⟩ (show l.length - (k + 1) < l.length - k by omega) rfl
    · conv => whnf
      repeat' (first | (refine brd_t (by first | assumption | omega) ?_; conv => whnf) | (refine brd_f (by first | assumption | omega) ?_; conv => whnf) | (refine ask (by first | assumption | omega) ?_; conv => whnf) | (refine fit64 (by omega) ?_; conv => whnf) | (refine fit (by simp only [kmin, kmax]; omega) ?_; conv => whnf) | (refine br_t (by assumption) ?_; conv => whnf) | (refine br_f (by assumption) ?_; conv => whnf) | (refine get_of (by assumption) ?_; conv => whnf) | (refine get_map (by assumption) ?_; conv => whnf) | (refine ask ?_ ?_; (simp; omega); conv => whnf) | (refine brd (fun h => ?_) (fun h => ?_) <;> conv => whnf) | (refine br (fun h => ?_) (fun h => ?_) <;> conv => whnf) | (refine ret_now hE ?_; conv => whnf) | (intro hlen; conv => whnf))
      exact next_drop [5, 14, 15, 16] [0] (k + 1, o ++ (n ++ ([91] ++ a ++ [93]))) ⟨hlt, by simp; omega, by rw [← hI, hst]; simp [preT, pnameT, pattrT, hk0, hn0, ha0]⟩ (show l.length - (k + 1) < l.length - k by omega) rfl
    · conv => whnf
      repeat' (first | (refine brd_t (by first | assumption | omega) ?_; conv => whnf) | (refine brd_f (by first | assumption | omega) ?_; conv => whnf) | (refine ask (by first | assumption | omega) ?_; conv => whnf) | (refine fit64 (by omega) ?_; conv => whnf) | (refine fit (by simp only [kmin, kmax]; omega) ?_; conv => whnf) | (refine br_t (by assumption) ?_; conv => whnf) | (refine br_f (by assumption) ?_; conv => whnf) | (refine get_of (by assumption) ?_; conv => whnf) | (refine get_map (by assumption) ?_; conv => whnf) | (refine ask ?_ ?_; (simp; omega); conv => whnf) | (refine brd (fun h => ?_) (fun h => ?_) <;> conv => whnf) | (refine br (fun h => ?_) (fun h => ?_) <;> conv => whnf) | (refine ret_now hE ?_; conv => whnf) | (intro hlen; conv => whnf))
      exact next_drop [5, 14, 15, 16] [0] (k + 1, o ++ [32] ++ [62, 32] ++ [42]) ⟨hlt, by simp; omega, by rw [← hI, hst]; simp [preT, pnameT, pattrT, hk0, hn0, ha0]⟩ (show l.length - (k + 1) < l.length - k by omega) rfl
    · conv => whnf
      repeat' (first | (refine brd_t (by first | assumption | omega) ?_; conv => whnf) | (refine brd_f (by first | assumption | omega) ?_; conv => whnf) | (refine ask (by first | assumption | omega) ?_; conv => whnf) | (refine fit64 (by omega) ?_; conv => whnf) | (refine fit (by simp only [kmin, kmax]; omega) ?_; conv => whnf) | (refine br_t (by assumption) ?_; conv => whnf) | (refine br_f (by assumption) ?_; conv => whnf) | (refine get_of (by assumption) ?_; conv => whnf) | (refine get_map (by assumption) ?_; conv => whnf) | (refine ask ?_ ?_; (simp; omega); conv => whnf) | (refine brd (fun h => ?_) (fun h => ?_) <;> conv => whnf) | (refine br (fun h => ?_) (fun h => ?_) <;> conv => whnf) | (refine ret_now hE ?_; conv => whnf) | (intro hlen; conv => whnf))
      exact next_drop [5, 14, 15, 16] [0] (k + 1, o ++ [32] ++ [42]) ⟨hlt, by simp; omega, by rw [← hI, hst]; simp [preT, pnameT, pattrT, hk0, hn0, ha0]⟩ (show l.length - (k + 1) < l.length - k by omega) rfl
    · conv => whnf
      repeat' (first | (refine brd_t (by first | assumption | omega) ?_; conv => whnf) | (refine brd_f (by first | assumption | omega) ?_; conv => whnf) | (refine ask (by first | assumption | omega) ?_; conv => whnf) | (refine fit64 (by omega) ?_; conv => whnf) | (refine fit (by simp only [kmin, kmax]; omega) ?_; conv => whnf) | (refine br_t (by assumption) ?_; conv => whnf) | (refine br_f (by assumption) ?_; conv => whnf) | (refine get_of (by assumption) ?_; conv => whnf) | (refine get_map (by assumption) ?_; conv => whnf) | (refine ask ?_ ?_; (simp; omega); conv => whnf) | (refine brd (fun h => ?_) (fun h => ?_) <;> conv => whnf) | (refine br (fun h => ?_) (fun h => ?_) <;> conv => whnf) | (refine ret_now hE ?_; conv => whnf) | (intro hlen; conv => whnf))
      exact next_drop [5, 14, 15, 16] [0] (k + 1, o ++ [32] ++ [62, 32] ++ ([42] ++ ([91] ++ a ++ [93]))) ⟨hlt, by simp; omega, by rw [← hI, hst]; simp [preT, pnameT, pattrT, hk0, hn0, ha0]⟩ (show l.length - (k + 1) < l.length - k by omega) rfl
    · conv => whnf
      repeat' (first | (refine brd_t (by first | assumption | omega) ?_; conv => whnf) | (refine brd_f (by first | assumption | omega) ?_; conv => whnf) | (refine ask (by first | assumption | omega) ?_; conv => whnf) | (refine fit64 (by omega) ?_; conv => whnf) | (refine fit (by simp only [kmin, kmax]; omega) ?_; conv => whnf) | (refine br_t (by assumption) ?_; conv => whnf) | (refine br_f (by assumption) ?_; conv => whnf) | (refine get_of (by assumption) ?_; conv => whnf) | (refine get_map (by assumption) ?_; conv => whnf) | (refine ask ?_ ?_; (simp; omega); conv => whnf) | (refine brd (fun h => ?_) (fun h => ?_) <;> conv => whnf) | (refine br (fun h => ?_) (fun h => ?_) <;> conv => whnf) | (refine ret_now hE ?_; conv => whnf) | (intro hlen; conv => whnf))
      exact next_drop [5, 14, 15, 16] [0] (k + 1, o ++ [32] ++ ([42] ++ ([91] ++ a ++ [93]))) ⟨hlt, by simp; omega, by rw [← hI, hst]; simp [preT, pnameT, pattrT, hk0, hn0, ha0]⟩ (show l.length - (k + 1) < l.length - k by omega) rfl
    · conv => whnf
      repeat' (first | (refine brd_t (by first | assumption | omega) ?_; conv => whnf) | (refine brd_f (by first | assumption | omega) ?_; conv => whnf) | (refine ask (by first | assumption | omega) ?_; conv => whnf) | (refine fit64 (by omega) ?_; conv => whnf) | (refine fit (by simp only [kmin, kmax]; omega) ?_; conv => whnf) | (refine br_t (by assumption) ?_; conv => whnf) | (refine br_f (by assumption) ?_; conv => whnf) | (refine get_of (by assumption) ?_; conv => whnf) | (refine get_map (by assumption) ?_; conv => whnf) | (refine ask ?_ ?_; (simp; omega); conv => whnf) | (refine brd (fun h => ?_) (fun h => ?_) <;> conv => whnf) | (refine br (fun h => ?_) (fun h => ?_) <;> conv => whnf) | (refine ret_now hE ?_; conv => whnf) | (intro hlen; conv => whnf))
      exact next_drop [5, 14, 15, 16] [0] (k + 1, o ++ [32] ++ [62, 32] ++ n) ⟨hlt, by simp; omega, by rw [← hI, hst]; simp [preT, pnameT, pattrT, hk0, hn0, ha0]⟩ (show l.length - (k + 1) < l.length - k by omega) rfl
    · conv => whnf
      repeat' (first | (refine brd_t (by first | assumption | omega) ?_; conv => whnf) | (refine brd_f (by first | assumption | omega) ?_; conv => whnf) | (refine ask (by first | assumption | omega) ?_; conv => whnf) | (refine fit64 (by omega) ?_; conv => whnf) | (refine fit (by simp only [kmin, kmax]; omega) ?_; conv => whnf) | (refine br_t (by assumption) ?_; conv => whnf) | (refine br_f (by assumption) ?_; conv => whnf) | (refine get_of (by assumption) ?_; conv => whnf) | (refine get_map (by assumption) ?_; conv => whnf) | (refine ask ?_ ?_; (simp; omega); conv => whnf) | (refine brd (fun h => ?_) (fun h => ?_) <;> conv => whnf) | (refine br (fun h => ?_) (fun h => ?_) <;> conv => whnf) | (refine ret_now hE ?_; conv => whnf) | (intro hlen; conv => whnf))
      exact next_drop [5, 14, 15, 16] [0] (k + 1, o ++ [32] ++ n) ⟨hlt, by simp; omega, by rw [← hI, hst]; simp [preT, pnameT, pattrT, hk0, hn0, ha0]⟩ (show l.length - (k + 1) < l.length - k by omega) rfl
    · conv => whnf
      repeat' (first | (refine brd_t (by first | assumption | omega) ?_; conv => whnf) | (refine brd_f (by first | assumption | omega) ?_; conv => whnf) | (refine ask (by first | assumption | omega) ?_; conv => whnf) | (refine fit64 (by omega) ?_; conv => whnf) | (refine fit (by simp only [kmin, kmax]; omega) ?_; conv => whnf) | (refine br_t (by assumption) ?_; conv => whnf) | (refine br_f (by assumption) ?_; conv => whnf) | (refine get_of (by assumption) ?_; conv => whnf) | (refine get_map (by assumption) ?_; conv => whnf) | (refine ask ?_ ?_; (simp; omega); conv => whnf) | (refine brd (fun h => ?_) (fun h => ?_) <;> conv => whnf) | (refine br (fun h => ?_) (fun h => ?_) <;> conv => whnf) | (refine ret_now hE ?_; conv => whnf) | (intro hlen; conv => whnf))
      exact next_drop [5, 14, 15, 16] [0] (k + 1, o ++ [32] ++ [62, 32] ++ (n ++ ([91] ++ a ++ [93]))) ⟨hlt, by simp; omega, by rw [← hI, hst]; simp [preT, pnameT, pattrT, hk0, hn0, ha0]⟩ (show l.length - (k + 1) < l.length - k by omega) rfl
    · conv => whnf
      repeat' (first | (refine brd_t (by first | assumption | omega) ?_; conv => whnf) | (refine brd_f (by first | assumption | omega) ?_; conv => whnf) | (refine ask (by first | assumption | omega) ?_; conv => whnf) | (refine fit64 (by omega) ?_; conv => whnf) | (refine fit (by simp only [kmin, kmax]; omega) ?_; conv => whnf) | (refine br_t (by assumption) ?_; conv => whnf) | (refine br_f (by assumption) ?_; conv => whnf) | (refine get_of (by assumption) ?_; conv => whnf) | (refine get_map (by assumption) ?_; conv => whnf) | (refine ask ?_ ?_; (simp; omega); conv => whnf) | (refine brd (fun h => ?_) (fun h => ?_) <;> conv => whnf) | (refine br (fun h => ?_) (fun h => ?_) <;> conv => whnf) | (refine ret_now hE ?_; conv => whnf) | (intro hlen; conv => whnf))
      exact next_drop [5, 14, 15, 16] [0] (k + 1, o ++ [32] ++ (n ++ ([91] ++ a ++ [93]))) ⟨hlt, by simp; omega, by rw [← hI, hst]; simp [preT, pnameT, pattrT, hk0, hn0, ha0]⟩ (show l.length - (k + 1) < l.length - k by omega) rfl
  · conv => whnf
    repeat' (first | (refine brd_t (by first | assumption | omega) ?_; conv => whnf) | (refine brd_f (by first | assumption | omega) ?_; conv => whnf) | (refine ask (by first | assumption | omega) ?_; conv => whnf) | (refine fit64 (by omega) ?_; conv => whnf) | (refine fit (by simp only [kmin, kmax]; omega) ?_; conv => whnf) | (refine br_t (by assumption) ?_; conv => whnf) | (refine br_f (by assumption) ?_; conv => whnf) | (refine get_of (by assumption) ?_; conv => whnf) | (refine get_map (by assumption) ?_; conv => whnf) | (refine brd (fun h => ?_) (fun h => ?_) <;> conv => whnf) | (refine br (fun h => ?_) (fun h => ?_) <;> conv => whnf) | (refine ret_now hE ?_; conv => whnf) | (intro hlen; conv => whnf))
    refine ⟨rfl, ?_⟩
    rw [txt_end (by omega), List.append_nil] at hI
    rw [hI]
theorem pick_Text (l : List Pk) : Fn1 Try.prog 23 [.lst (l.map pickA)] (fun r => r = pickR l) := by
  have hc := pick_check l
  unfold pickR
  by_cases h0 : pickF l = 0
  · obtain ⟨_, h10, hg⟩ := pickF_ok h0
    have ht := pick_text l h10 hg
    rw [h0] at hc
    rw [if_pos h0]
    refine fn1E (T := Try.tt) Try.func23 rfl tt_all follows_all ?_ ?_ fun C hC hE => ?_
    · kernel_rfl
    · exact Nat.le_of_ble_eq_true (by kernel_rfl)
    conv => whnf
    repeat' (first | (refine brd_t (by first | assumption | omega) ?_; conv => whnf) | (refine brd_f (by first | assumption | omega) ?_; conv => whnf) | (refine ask (by first | assumption | omega) ?_; conv => whnf) | (refine fit64 (by omega) ?_; conv => whnf) | (refine fit (by simp only [kmin, kmax]; omega) ?_; conv => whnf) | (refine br_t (by assumption) ?_; conv => whnf) | (refine br_f (by assumption) ?_; conv => whnf) | (refine get_of (by assumption) ?_; conv => whnf) | (refine get_map (by assumption) ?_; conv => whnf) | (refine call_eq (hc) hC hasBody_44 ?_ ?_ ?_; kernel_rfl; kernel_rfl; conv => whnf) | (refine callq_eq (hc) hC hasBody_44 ?_ ?_ ?_; kernel_rfl; kernel_rfl; conv => whnf) | (refine call_eq (ht) hC hasBody_49 ?_ ?_ ?_; kernel_rfl; kernel_rfl; conv => whnf) | (refine callq_eq (ht) hC hasBody_49 ?_ ?_ ?_; kernel_rfl; kernel_rfl; conv => whnf) | (refine brd (fun h => ?_) (fun h => ?_) <;> conv => whnf) | (refine br (fun h => ?_) (fun h => ?_) <;> conv => whnf) | (refine ret_now hE ?_; conv => whnf) | (intro hlen; conv => whnf))
    exact ⟨rfl, rfl⟩
  · rw [if_neg h0]
    refine fn1E (T := Try.tt) Try.func23 rfl tt_all follows_all ?_ ?_ fun C hC hE => ?_
    · kernel_rfl
    · exact Nat.le_of_ble_eq_true (by kernel_rfl)
    conv => whnf
    repeat' (first | (refine brd_t (by first | assumption | omega) ?_; conv => whnf) | (refine brd_f (by first | assumption | omega) ?_; conv => whnf) | (refine ask (by first | assumption | omega) ?_; conv => whnf) | (refine fit64 (by omega) ?_; conv => whnf) | (refine fit (by simp only [kmin, kmax]; omega) ?_; conv => whnf) | (refine br_t (by assumption) ?_; conv => whnf) | (refine br_f (by assumption) ?_; conv => whnf) | (refine get_of (by assumption) ?_; conv => whnf) | (refine get_map (by assumption) ?_; conv => whnf) | (refine call_eq (hc) hC hasBody_44 ?_ ?_ ?_; kernel_rfl; kernel_rfl; conv => whnf) | (refine callq_eq (hc) hC hasBody_44 ?_ ?_ ?_; kernel_rfl; kernel_rfl; conv => whnf) | (refine brd_t h0 ?_; conv => whnf) | (refine brd_f h0 ?_; conv => whnf) | (refine brd (fun h => ?_) (fun h => ?_) <;> conv => whnf) | (refine br (fun h => ?_) (fun h => ?_) <;> conv => whnf) | (refine ret_now hE ?_; conv => whnf) | (intro hlen; conv => whnf))
    exact ⟨rfl, rfl⟩
theorem doc_PickText (l : List Pk) : Fn1 Try.prog 24 [.lst (l.map pickA)] (fun r => r = pickR l) := by
  unfold pickR
  by_cases h0 : pickF l = 0
  · obtain ⟨_, h10, hg⟩ := pickF_ok h0
    rw [if_pos h0]
    exact doc_pick_text l h10 hg h0
  · have hf := pick_fault l
    rw [if_neg h0]
    refine fn1E (T := Try.tt) Try.func24 rfl tt_all follows_all ?_ ?_ fun C hC hE => ?_
    · kernel_rfl
    · exact Nat.le_of_ble_eq_true (by kernel_rfl)
    conv => whnf
    repeat' (first | (refine brd_t (by first | assumption | omega) ?_; conv => whnf) | (refine brd_f (by first | assumption | omega) ?_; conv => whnf) | (refine ask (by first | assumption | omega) ?_; conv => whnf) | (refine fit64 (by omega) ?_; conv => whnf) | (refine fit (by simp only [kmin, kmax]; omega) ?_; conv => whnf) | (refine br_t (by assumption) ?_; conv => whnf) | (refine br_f (by assumption) ?_; conv => whnf) | (refine get_of (by assumption) ?_; conv => whnf) | (refine get_map (by assumption) ?_; conv => whnf) | (refine call_eq (hf) hC hasBody_46 ?_ ?_ ?_; kernel_rfl; kernel_rfl; conv => whnf) | (refine callq_eq (hf) hC hasBody_46 ?_ ?_ ?_; kernel_rfl; kernel_rfl; conv => whnf) | (refine brd_t h0 ?_; conv => whnf) | (refine brd_f h0 ?_; conv => whnf) | (refine brd (fun h => ?_) (fun h => ?_) <;> conv => whnf) | (refine br (fun h => ?_) (fun h => ?_) <;> conv => whnf) | (refine ret_now hE ?_; conv => whnf) | (intro hlen; conv => whnf))
    exact ⟨rfl, rfl⟩
theorem pickTexts_law (l : List Pk) : Fn1 Try.prog 7 [.lst (l.map pickA)] (fun r => r = .bool true) := by
  have h1 := pick_Text l
  have h2 := doc_PickText l
  obtain ⟨s, e, hr⟩ : ∃ s e, pickR l = .tup [.str s, .int .i64 e] := by unfold pickR; split <;> exact ⟨_, _, rfl⟩
  rw [hr] at h1 h2
  refine fn1E (T := Try.tt) Try.func7 rfl tt_all follows_all ?_ ?_ fun C hC hE => ?_
  · kernel_rfl
  · exact Nat.le_of_ble_eq_true (by kernel_rfl)
  conv => whnf
  repeat' (first | (refine brd_t (by first | assumption | omega) ?_; conv => whnf) | (refine brd_f (by first | assumption | omega) ?_; conv => whnf) | (refine ask (by first | assumption | omega) ?_; conv => whnf) | (refine fit64 (by omega) ?_; conv => whnf) | (refine fit (by simp only [kmin, kmax]; omega) ?_; conv => whnf) | (refine br_t (by assumption) ?_; conv => whnf) | (refine br_f (by assumption) ?_; conv => whnf) | (refine get_of (by assumption) ?_; conv => whnf) | (refine get_map (by assumption) ?_; conv => whnf) | (refine brd_t rfl ?_; conv => whnf) | (refine call_eq (h1) hC hasBody_23 ?_ ?_ ?_; kernel_rfl; kernel_rfl; conv => whnf) | (refine callq_eq (h1) hC hasBody_23 ?_ ?_ ?_; kernel_rfl; kernel_rfl; conv => whnf) | (refine call_eq (h2) hC hasBody_24 ?_ ?_ ?_; kernel_rfl; kernel_rfl; conv => whnf) | (refine callq_eq (h2) hC hasBody_24 ?_ ?_ ?_; kernel_rfl; kernel_rfl; conv => whnf) | (refine brd (fun h => ?_) (fun h => ?_) <;> conv => whnf) | (refine br (fun h => ?_) (fun h => ?_) <;> conv => whnf) | (refine ret_now hE ?_; conv => whnf) | (intro hlen; conv => whnf))
  exact ⟨rfl, rfl⟩
end Go.Proofs.Ytcfinfdkmpgaaaa
