/- space.Text and the document's SpaceText, walked; the law SpaceTexts. No conditions. -/
import Derived.Test.YteekfmflecgjmaaBldd
set_option linter.unusedSimpArgs false
set_option linter.unusedVariables false
set_option maxRecDepth 100000
namespace Go.Proofs.Yteekfmflecgjmaa
open Go.RowKit

def isSp (n : Int) : Bool := decide (n = 32 ∨ n = 9 ∨ n = 10 ∨ n = 12)
/-- The text with single blanks; a: is a blank needless now? -/
def spText (a : Bool) : List UInt8 → List UInt8
  | [] => []
  | c :: r => if isSp c.toNat then (if a then spText true r else 32 :: spText true r) else c :: spText false r
theorem sp_step {l : List UInt8} {k : Nat} {x : UInt8} (hx : l[k]? = some x) (a : Bool) : spText a (l.drop k) = if isSp x.toNat then (if a then spText true (l.drop (k + 1)) else 32 :: spText true (l.drop (k + 1))) else x :: spText false (l.drop (k + 1)) := by
  have hk : k < l.length := (List.getElem?_eq_some_iff.1 hx).1
  have : l.drop k = x :: l.drop (k + 1) := by
    rw [List.drop_eq_getElem_cons hk]
    rw [(List.getElem?_eq_some_iff.1 hx).2]
  rw [this]
  rfl
theorem space_space (n : Int) : Fn1 Try.prog 68 [.int .u8 n] (fun r => r = .bool (isSp n)) := by
  refine fn1E (T := Try.tt) Try.func68 rfl tt_all follows_all ?_ ?_ fun C hC hE => ?_
  · kernel_rfl
  · exact Nat.le_of_ble_eq_true (by kernel_rfl)
  conv => whnf
  repeat' (first | (refine brd_t (by first | assumption | omega) ?_; conv => whnf) | (refine brd_f (by first | assumption | omega) ?_; conv => whnf) | (refine ask (by first | assumption | omega) ?_; conv => whnf) | (refine fit64 (by omega) ?_; conv => whnf) | (refine fit (by simp only [kmin, kmax]; omega) ?_; conv => whnf) | (refine br_t (by assumption) ?_; conv => whnf) | (refine br_f (by assumption) ?_; conv => whnf) | (refine get_of (by assumption) ?_; conv => whnf) | (refine get_map (by assumption) ?_; conv => whnf) | (refine brd (fun h => ?_) (fun h => ?_) <;> conv => whnf) | (refine br (fun h => ?_) (fun h => ?_) <;> conv => whnf) | (refine ret_now hE ?_; conv => whnf) | (intro hlen; conv => whnf))
  all_goals exact ⟨rfl, by unfold isSp; congr 1; simp; omega⟩
theorem ref_space (n : Int) : Fn1 Try.prog 72 [.int .u8 n] (fun r => r = .bool (isSp n)) := by
  refine fn1E (T := Try.tt) Try.func72 rfl tt_all follows_all ?_ ?_ fun C hC hE => ?_
  · kernel_rfl
  · exact Nat.le_of_ble_eq_true (by kernel_rfl)
  conv => whnf
  repeat' (first | (refine brd_t (by first | assumption | omega) ?_; conv => whnf) | (refine brd_f (by first | assumption | omega) ?_; conv => whnf) | (refine ask (by first | assumption | omega) ?_; conv => whnf) | (refine fit64 (by omega) ?_; conv => whnf) | (refine fit (by simp only [kmin, kmax]; omega) ?_; conv => whnf) | (refine br_t (by assumption) ?_; conv => whnf) | (refine br_f (by assumption) ?_; conv => whnf) | (refine get_of (by assumption) ?_; conv => whnf) | (refine get_map (by assumption) ?_; conv => whnf) | (refine brd (fun h => ?_) (fun h => ?_) <;> conv => whnf) | (refine br (fun h => ?_) (fun h => ?_) <;> conv => whnf) | (refine ret_now hE ?_; conv => whnf) | (intro hlen; conv => whnf))
  all_goals exact ⟨rfl, by unfold isSp; congr 1; simp; omega⟩
set_option maxHeartbeats 8000000 in
theorem space_text (s : List UInt8) (a : Bool) (hs : s.length ≤ 140737488355328) : Fn1 Try.prog 48 [.str s, .bool a] (fun r => r = .str (spText a s)) := by
  refine fn1E (T := Try.tt) Try.func48 rfl tt_all follows_all ?_ ?_ fun C hC hE => ?_
  · kernel_rfl
  · exact Nat.le_of_ble_eq_true (by kernel_rfl)
  conv => whnf
  repeat' (first | (refine brd_t (by first | assumption | omega) ?_; conv => whnf) | (refine brd_f (by first | assumption | omega) ?_; conv => whnf) | (refine ask (by first | assumption | omega) ?_; conv => whnf) | (refine fit64 (by omega) ?_; conv => whnf) | (refine fit (by simp only [kmin, kmax]; omega) ?_; conv => whnf) | (refine br_t (by assumption) ?_; conv => whnf) | (refine br_f (by assumption) ?_; conv => whnf) | (refine get_of (by assumption) ?_; conv => whnf) | (refine get_map (by assumption) ?_; conv => whnf) | (refine brd (fun h => ?_) (fun h => ?_) <;> conv => whnf) | (refine br (fun h => ?_) (fun h => ?_) <;> conv => whnf) | (refine ret_now hE ?_; conv => whnf) | (intro hlen; conv => whnf))
  refine loopE (fun ((k, b, o) : Nat × Bool × List UInt8) => ⟨26, [(0, .str s), (1, .bool b), (5, .ptr 0 0 0), (8, .int .i64 s.length), (9, .int .i64 k)], [some (.bld 115 (some (1, o.length))), some (.buf 5 o)]⟩)
    (fun (k, b, o) => k ≤ s.length ∧ o.length ≤ k ∧ o ++ spText b (s.drop k) = spText a s) (fun (k, _, _) => s.length - k) (0, a, []) hE ?_ ?_ ⟨Nat.zero_le _, Nat.le_refl _, by simp⟩ ?_
  · kernel_rfl
  · exact up_buf 0 5 rfl (at_keep [0, 1, 5, 8, 9] rfl)
  · rintro ⟨k, b, o⟩ ⟨hk, ho, hI⟩
    by_cases hlt : k < s.length
    · obtain ⟨x, hx⟩ : ∃ x, s[k]? = some x := ⟨_, List.getElem?_eq_getElem hlt⟩
      have hst := sp_step hx b
      have hsp := space_space x.toNat
      cases hc : isSp x.toNat with
      | true =>
        rw [hc] at hsp hst
        cases b with
        | true =>
          conv => whnf
          repeat' (first | (refine brd_t (by first | assumption | omega) ?_; conv => whnf) | (refine brd_f (by first | assumption | omega) ?_; conv => whnf) | (refine ask (by first | assumption | omega) ?_; conv => whnf) | (refine fit64 (by omega) ?_; conv => whnf) | (refine fit (by simp only [kmin, kmax]; omega) ?_; conv => whnf) | (refine br_t (by assumption) ?_; conv => whnf) | (refine br_f (by assumption) ?_; conv => whnf) | (refine get_of (by assumption) ?_; conv => whnf) | (refine get_map (by assumption) ?_; conv => whnf) | (refine call_eq (hsp) hC hasBody_68 ?_ ?_ ?_; kernel_rfl; kernel_rfl; conv => whnf) | (refine callq_eq (hsp) hC hasBody_68 ?_ ?_ ?_; kernel_rfl; kernel_rfl; conv => whnf) | (refine brd (fun h => ?_) (fun h => ?_) <;> conv => whnf) | (refine br (fun h => ?_) (fun h => ?_) <;> conv => whnf) | (refine ret_now hE ?_; conv => whnf) | (intro hlen; conv => whnf))
          exact next_keep [0, 1, 5, 8, 9] (k + 1, true, o) ⟨hlt, by omega, by rw [← hI, hst]; rfl⟩ (show s.length - (k + 1) < s.length - k by omega) rfl
        | false =>
          conv => whnf
          repeat' (first | (refine brd_t (by first | assumption | omega) ?_; conv => whnf) | (refine brd_f (by first | assumption | omega) ?_; conv => whnf) | (refine ask (by first | assumption | omega) ?_; conv => whnf) | (refine fit64 (by omega) ?_; conv => whnf) | (refine fit (by simp only [kmin, kmax]; omega) ?_; conv => whnf) | (refine br_t (by assumption) ?_; conv => whnf) | (refine br_f (by assumption) ?_; conv => whnf) | (refine get_of (by assumption) ?_; conv => whnf) | (refine get_map (by assumption) ?_; conv => whnf) | (refine call_eq (hsp) hC hasBody_68 ?_ ?_ ?_; kernel_rfl; kernel_rfl; conv => whnf) | (refine callq_eq (hsp) hC hasBody_68 ?_ ?_ ?_; kernel_rfl; kernel_rfl; conv => whnf) | (refine call_wb hC 0 1 (by decide) 32 (by omega) rfl rfl rfl rfl ?_; conv => whnf) | (refine brd (fun h => ?_) (fun h => ?_) <;> conv => whnf) | (refine br (fun h => ?_) (fun h => ?_) <;> conv => whnf) | (refine ret_now hE ?_; conv => whnf) | (intro hlen; conv => whnf))
          exact next_keep [0, 1, 5, 8, 9] (k + 1, true, o ++ [32]) ⟨hlt, by rw [List.length_append]; simp only [List.length_cons, List.length_nil]; omega, by rw [← hI, hst]; simp⟩ (show s.length - (k + 1) < s.length - k by omega) rfl
      | false =>
        rw [hc] at hsp hst
        conv => whnf
        repeat' (first | (refine brd_t (by first | assumption | omega) ?_; conv => whnf) | (refine brd_f (by first | assumption | omega) ?_; conv => whnf) | (refine ask (by first | assumption | omega) ?_; conv => whnf) | (refine fit64 (by omega) ?_; conv => whnf) | (refine fit (by simp only [kmin, kmax]; omega) ?_; conv => whnf) | (refine br_t (by assumption) ?_; conv => whnf) | (refine br_f (by assumption) ?_; conv => whnf) | (refine get_of (by assumption) ?_; conv => whnf) | (refine get_map (by assumption) ?_; conv => whnf) | (refine call_eq (hsp) hC hasBody_68 ?_ ?_ ?_; kernel_rfl; kernel_rfl; conv => whnf) | (refine callq_eq (hsp) hC hasBody_68 ?_ ?_ ?_; kernel_rfl; kernel_rfl; conv => whnf) | (refine call_wb hC 0 1 (by decide) x (by omega) rfl rfl rfl rfl ?_; conv => whnf) | (refine brd (fun h => ?_) (fun h => ?_) <;> conv => whnf) | (refine br (fun h => ?_) (fun h => ?_) <;> conv => whnf) | (refine ret_now hE ?_; conv => whnf) | (intro hlen; conv => whnf))
        exact next_keep [0, 1, 5, 8, 9] (k + 1, false, o ++ [x]) ⟨hlt, by simp; omega, by rw [← hI, hst]; simp⟩ (show s.length - (k + 1) < s.length - k by omega) rfl
    · conv => whnf
      repeat' (first | (refine brd_t (by first | assumption | omega) ?_; conv => whnf) | (refine brd_f (by first | assumption | omega) ?_; conv => whnf) | (refine ask (by first | assumption | omega) ?_; conv => whnf) | (refine fit64 (by omega) ?_; conv => whnf) | (refine fit (by simp only [kmin, kmax]; omega) ?_; conv => whnf) | (refine br_t (by assumption) ?_; conv => whnf) | (refine br_f (by assumption) ?_; conv => whnf) | (refine get_of (by assumption) ?_; conv => whnf) | (refine get_map (by assumption) ?_; conv => whnf) | (refine call_str hC 0 1 (by decide) rfl rfl rfl ?_; conv => whnf) | (refine brd (fun h => ?_) (fun h => ?_) <;> conv => whnf) | (refine br (fun h => ?_) (fun h => ?_) <;> conv => whnf) | (refine ret_now hE ?_; conv => whnf) | (intro hlen; conv => whnf))
      refine ⟨rfl, ?_⟩
      have : s.drop k = [] := List.drop_eq_nil_of_le (by omega)
      rw [this] at hI
      rw [← hI]
      simp [spText]
def prevSp (a : Bool) (s : List UInt8) (i : Nat) : Bool := match i with | 0 => a | j + 1 => match s[j]? with | some y => isSp y.toNat | none => a
set_option maxHeartbeats 8000000 in
theorem ref_text (s : List UInt8) (a : Bool) : Fn1 Try.prog 50 [.str s, .bool a] (fun r => r = .str (spText a s)) := by
  refine fn1E (T := Try.tt) Try.func50 rfl tt_all follows_all ?_ ?_ fun C hC hE => ?_
  · kernel_rfl
  · exact Nat.le_of_ble_eq_true (by kernel_rfl)
  conv => whnf
  repeat' (first | (refine brd_t (by first | assumption | omega) ?_; conv => whnf) | (refine brd_f (by first | assumption | omega) ?_; conv => whnf) | (refine ask (by first | assumption | omega) ?_; conv => whnf) | (refine fit64 (by omega) ?_; conv => whnf) | (refine fit (by simp only [kmin, kmax]; omega) ?_; conv => whnf) | (refine br_t (by assumption) ?_; conv => whnf) | (refine br_f (by assumption) ?_; conv => whnf) | (refine get_of (by assumption) ?_; conv => whnf) | (refine get_map (by assumption) ?_; conv => whnf) | (refine brd (fun h => ?_) (fun h => ?_) <;> conv => whnf) | (refine br (fun h => ?_) (fun h => ?_) <;> conv => whnf) | (refine ret_now hE ?_; conv => whnf) | (intro hlen; conv => whnf))
  refine loopE (fun ((k, o) : Nat × List UInt8) => ⟨44, [(0, .str s), (1, .bool a), (5, .str o), (6, .int .i64 k)], []⟩)
    (fun (k, o) => k ≤ s.length ∧ o.length ≤ k ∧ o ++ spText (prevSp a s k) (s.drop k) = spText a s) (fun (k, _) => s.length - k) (0, []) hE ?_ ?_ ⟨Nat.zero_le _, Nat.le_refl _, by simp [prevSp]⟩ ?_
  · kernel_rfl
  · exact at_keep [0, 1, 5, 6] rfl
  · rintro ⟨k, o⟩ ⟨hk, ho, hI⟩
    by_cases hlt : k < s.length
    · obtain ⟨x, hx⟩ : ∃ x, s[k]? = some x := ⟨_, List.getElem?_eq_getElem hlt⟩
      have hst := sp_step hx (prevSp a s k)
      have hsp := ref_space x.toNat
      have hnx : prevSp a s (k + 1) = isSp x.toNat := by simp [prevSp, hx]
      have hcut : (s.take (((k : Nat) : Int) + 1).toNat).drop ((k : Nat) : Int).toNat = [x] := by
        rw [Int.toNat_natCast, show ((k : Int) + 1).toNat = k + 1 by omega, List.take_add_one, List.drop_append_of_le_length (by rw [List.length_take]; omega), hx]
        simp
      cases hc : isSp x.toNat with
      | true =>
        rw [hc] at hsp hst hnx
        cases k with
        | zero =>
          cases a with
          | true =>
            conv => whnf
            repeat' (first | (refine brd_t (by first | assumption | omega) ?_; conv => whnf) | (refine brd_f (by first | assumption | omega) ?_; conv => whnf) | (refine ask (by first | assumption | omega) ?_; conv => whnf) | (refine fit64 (by omega) ?_; conv => whnf) | (refine fit (by simp only [kmin, kmax]; omega) ?_; conv => whnf) | (refine br_t (by assumption) ?_; conv => whnf) | (refine br_f (by assumption) ?_; conv => whnf) | (refine get_of (by assumption) ?_; conv => whnf) | (refine get_map (by assumption) ?_; conv => whnf) | (refine call_eq (hsp) hC hasBody_72 ?_ ?_ ?_; kernel_rfl; kernel_rfl; conv => whnf) | (refine callq_eq (hsp) hC hasBody_72 ?_ ?_ ?_; kernel_rfl; kernel_rfl; conv => whnf) | (refine brd (fun h => ?_) (fun h => ?_) <;> conv => whnf) | (refine br (fun h => ?_) (fun h => ?_) <;> conv => whnf) | (refine ret_now hE ?_; conv => whnf) | (intro hlen; conv => whnf))
            exact next_keep [0, 1, 5, 6] (0 + 1, o) ⟨hlt, by omega, by rw [← hI, hst, hnx]; simp [prevSp]⟩ (show s.length - (0 + 1) < s.length - 0 by omega) rfl
          | false =>
            conv => whnf
            repeat' (first | (refine brd_t (by first | assumption | omega) ?_; conv => whnf) | (refine brd_f (by first | assumption | omega) ?_; conv => whnf) | (refine ask (by first | assumption | omega) ?_; conv => whnf) | (refine fit64 (by omega) ?_; conv => whnf) | (refine fit (by simp only [kmin, kmax]; omega) ?_; conv => whnf) | (refine br_t (by assumption) ?_; conv => whnf) | (refine br_f (by assumption) ?_; conv => whnf) | (refine get_of (by assumption) ?_; conv => whnf) | (refine get_map (by assumption) ?_; conv => whnf) | (refine call_eq (hsp) hC hasBody_72 ?_ ?_ ?_; kernel_rfl; kernel_rfl; conv => whnf) | (refine callq_eq (hsp) hC hasBody_72 ?_ ?_ ?_; kernel_rfl; kernel_rfl; conv => whnf) | (refine ask ?_ ?_; (simp; omega); conv => whnf) | (refine brd (fun h => ?_) (fun h => ?_) <;> conv => whnf) | (refine br (fun h => ?_) (fun h => ?_) <;> conv => whnf) | (refine ret_now hE ?_; conv => whnf) | (intro hlen; conv => whnf))
            exact next_keep [0, 1, 5, 6] (0 + 1, o ++ [32]) ⟨hlt, by rw [List.length_append]; simp only [List.length_cons, List.length_nil]; omega, by rw [← hI, hst, hnx]; simp [prevSp]⟩ (show s.length - (0 + 1) < s.length - 0 by omega) rfl
        | succ j =>
          obtain ⟨y, hy⟩ : ∃ y, s[j]? = some y := ⟨_, List.getElem?_eq_getElem (by omega)⟩
          have hsy := ref_space y.toNat
          have hy2 : s[(((j + 1 : Nat) : Int) - 1).toNat]? = some y := by rw [show (((j + 1 : Nat) : Int) - 1).toNat = j by omega]; exact hy
          have hpv : prevSp a s (j + 1) = isSp y.toNat := by simp [prevSp, hy]
          cases hd : isSp y.toNat with
          | true =>
            rw [hd] at hsy hpv
            conv => whnf
            repeat' (first | (refine brd_t (by first | assumption | omega) ?_; conv => whnf) | (refine brd_f (by first | assumption | omega) ?_; conv => whnf) | (refine ask (by first | assumption | omega) ?_; conv => whnf) | (refine fit64 (by omega) ?_; conv => whnf) | (refine fit (by simp only [kmin, kmax]; omega) ?_; conv => whnf) | (refine br_t (by assumption) ?_; conv => whnf) | (refine br_f (by assumption) ?_; conv => whnf) | (refine get_of (by assumption) ?_; conv => whnf) | (refine get_map (by assumption) ?_; conv => whnf) | (refine call_eq (hsp) hC hasBody_72 ?_ ?_ ?_; kernel_rfl; kernel_rfl; conv => whnf) | (refine callq_eq (hsp) hC hasBody_72 ?_ ?_ ?_; kernel_rfl; kernel_rfl; conv => whnf) | (refine call_eq (hsy) hC hasBody_72 ?_ ?_ ?_; kernel_rfl; kernel_rfl; conv => whnf) | (refine callq_eq (hsy) hC hasBody_72 ?_ ?_ ?_; kernel_rfl; kernel_rfl; conv => whnf) | (refine brd (fun h => ?_) (fun h => ?_) <;> conv => whnf) | (refine br (fun h => ?_) (fun h => ?_) <;> conv => whnf) | (refine ret_now hE ?_; conv => whnf) | (intro hlen; conv => whnf))
            exact next_keep [0, 1, 5, 6] (j + 1 + 1, o) ⟨hlt, by omega, by rw [← hI, hst, hnx]; simp [hpv]⟩ (show s.length - (j + 1 + 1) < s.length - (j + 1) by omega) rfl
          | false =>
            rw [hd] at hsy hpv
            conv => whnf
            repeat' (first | (refine brd_t (by first | assumption | omega) ?_; conv => whnf) | (refine brd_f (by first | assumption | omega) ?_; conv => whnf) | (refine ask (by first | assumption | omega) ?_; conv => whnf) | (refine fit64 (by omega) ?_; conv => whnf) | (refine fit (by simp only [kmin, kmax]; omega) ?_; conv => whnf) | (refine br_t (by assumption) ?_; conv => whnf) | (refine br_f (by assumption) ?_; conv => whnf) | (refine get_of (by assumption) ?_; conv => whnf) | (refine get_map (by assumption) ?_; conv => whnf) | (refine call_eq (hsp) hC hasBody_72 ?_ ?_ ?_; kernel_rfl; kernel_rfl; conv => whnf) | (refine callq_eq (hsp) hC hasBody_72 ?_ ?_ ?_; kernel_rfl; kernel_rfl; conv => whnf) | (refine call_eq (hsy) hC hasBody_72 ?_ ?_ ?_; kernel_rfl; kernel_rfl; conv => whnf) | (refine callq_eq (hsy) hC hasBody_72 ?_ ?_ ?_; kernel_rfl; kernel_rfl; conv => whnf) | (refine ask ?_ ?_; (simp; omega); conv => whnf) | (refine brd (fun h => ?_) (fun h => ?_) <;> conv => whnf) | (refine br (fun h => ?_) (fun h => ?_) <;> conv => whnf) | (refine ret_now hE ?_; conv => whnf) | (intro hlen; conv => whnf))
            exact next_keep [0, 1, 5, 6] (j + 1 + 1, o ++ [32]) ⟨hlt, by rw [List.length_append]; simp only [List.length_cons, List.length_nil]; omega, by rw [← hI, hst, hnx]; simp [hpv]⟩ (show s.length - (j + 1 + 1) < s.length - (j + 1) by omega) rfl
      | false =>
        rw [hc] at hsp hst hnx
        conv => whnf
        repeat' (first | (refine brd_t (by first | assumption | omega) ?_; conv => whnf) | (refine brd_f (by first | assumption | omega) ?_; conv => whnf) | (refine ask (by first | assumption | omega) ?_; conv => whnf) | (refine fit64 (by omega) ?_; conv => whnf) | (refine fit (by simp only [kmin, kmax]; omega) ?_; conv => whnf) | (refine br_t (by assumption) ?_; conv => whnf) | (refine br_f (by assumption) ?_; conv => whnf) | (refine get_of (by assumption) ?_; conv => whnf) | (refine get_map (by assumption) ?_; conv => whnf) | (refine call_eq (hsp) hC hasBody_72 ?_ ?_ ?_; kernel_rfl; kernel_rfl; conv => whnf) | (refine callq_eq (hsp) hC hasBody_72 ?_ ?_ ?_; kernel_rfl; kernel_rfl; conv => whnf) | (rw [hcut]; refine ask ?_ ?_; (simp; omega); conv => whnf) | (refine brd (fun h => ?_) (fun h => ?_) <;> conv => whnf) | (refine br (fun h => ?_) (fun h => ?_) <;> conv => whnf) | (refine ret_now hE ?_; conv => whnf) | (intro hlen; conv => whnf))
        exact next_keep [0, 1, 5, 6] (k + 1, o ++ [x]) ⟨hlt, by rw [List.length_append]; simp only [List.length_cons, List.length_nil]; omega, by rw [← hI, hst, hnx]; simp⟩ (show s.length - (k + 1) < s.length - k by omega) rfl
    · conv => whnf
      repeat' (first | (refine brd_t (by first | assumption | omega) ?_; conv => whnf) | (refine brd_f (by first | assumption | omega) ?_; conv => whnf) | (refine ask (by first | assumption | omega) ?_; conv => whnf) | (refine fit64 (by omega) ?_; conv => whnf) | (refine fit (by simp only [kmin, kmax]; omega) ?_; conv => whnf) | (refine br_t (by assumption) ?_; conv => whnf) | (refine br_f (by assumption) ?_; conv => whnf) | (refine get_of (by assumption) ?_; conv => whnf) | (refine get_map (by assumption) ?_; conv => whnf) | (refine brd (fun h => ?_) (fun h => ?_) <;> conv => whnf) | (refine br (fun h => ?_) (fun h => ?_) <;> conv => whnf) | (refine ret_now hE ?_; conv => whnf) | (intro hlen; conv => whnf))
      refine ⟨rfl, ?_⟩
      have : s.drop k = [] := List.drop_eq_nil_of_le (by omega)
      rw [this] at hI
      rw [← hI]
      simp [spText]
end Go.Proofs.Yteekfmflecgjmaa
