/- The document's strict reader: eat, walked. No conditions. -/
import Derived.Test.YtkkcmobnhiiacaaDoorPpLawB
import Derived.Test.YtkkcmobnhiiacaaDoorFresh
set_option linter.unusedSimpArgs false
set_option linter.unusedVariables false
set_option maxRecDepth 100000
namespace Go.Proofs.YtkkcmobnhiiacaaDoor
open Go.RowKit

def stO (s : Ys) (k : Nat) : List Ob := [.row 3 [.agg [.str s, .int .i64 k, .bool false]]]
/-- Does x stand at place k? -/
def eatB (s : Ys) (k : Nat) (x : Ys) : Bool := decide ((s.drop k).take x.length = x)
def eatK (s : Ys) (k : Nat) (x : Ys) : Nat := if eatB s k x = true then k + x.length else k
set_option maxHeartbeats 4000000 in
theorem h_eat (s : Ys) (k : Nat) (x : Ys) (hk : k ≤ s.length) (hs : s.length ≤ 1048576) (hx : x.length ≤ 1048576) (hx0 : x ≠ []) : HFn Tryd.prog 28 [.ptr 0 0 0, .str x] (stO s k) [0] (fun r o => r = .bool (eatB s k x) ∧ o = stO s (eatK s k x)) := by
  unfold stO
  by_cases hA : k + x.length ≤ s.length
  · have hcut : List.drop (k : Int).toNat (List.take ((k : Int) + (x.length : Int)).toNat s) = (s.drop k).take x.length := by
      rw [Int.toNat_natCast, show ((k : Int) + (x.length : Int)).toNat = k + x.length by omega, List.drop_take]
      congr 1; omega
    refine hfnE (T := Tryd.tt) Tryd.func28 rfl tt_all follows_all ?_ ?_ fun C vs hC hE => ?_
    · kernel_rfl
    · exact Nat.le_of_ble_eq_true (by kernel_rfl)
    by_cases he : (s.drop k).take x.length = x
    · have hb : eatB s k x = true := decide_eq_true he
      unfold eatK
      rw [hb, if_pos rfl]
      conv => whnf
      repeat' (first | (refine brd_t (by first | assumption | omega) ?_; conv => whnf) | (refine brd_f (by first | assumption | omega) ?_; conv => whnf) | (refine ask (by first | assumption | omega) ?_; conv => whnf) | (refine fit64 (by omega) ?_; conv => whnf) | (refine fit (by simp only [kmin, kmax]; omega) ?_; conv => whnf) | (refine br_t (by assumption) ?_; conv => whnf) | (refine br_f (by assumption) ?_; conv => whnf) | (refine get_of (by assumption) ?_; conv => whnf) | (refine get_map (by assumption) ?_; conv => whnf) | (rw [hcut, he]; refine brd_t rfl ?_; conv => whnf) | (refine draw_lex hE ?_ ?_; decide +kernel; conv => whnf) | (refine brd (fun h => ?_) (fun h => ?_) <;> conv => whnf) | (refine br (fun h => ?_) (fun h => ?_) <;> conv => whnf) | (refine ret_now hE ?_; conv => whnf) | (intro hlen; conv => whnf) | (refine seg_here ?_; conv => whnf) | (refine both ?_ ?_ <;> conv => whnf))
      all_goals
        refine hret_up (up_here (hret_now hE ?_))
        conv => whnf
        exact ⟨rfl, rfl, rfl, rfl⟩
    · have hb : eatB s k x = false := decide_eq_false he
      unfold eatK
      rw [hb, if_neg (by decide)]
      conv => whnf
      repeat' (first | (refine brd_t (by first | assumption | omega) ?_; conv => whnf) | (refine brd_f (by first | assumption | omega) ?_; conv => whnf) | (refine ask (by first | assumption | omega) ?_; conv => whnf) | (refine fit64 (by omega) ?_; conv => whnf) | (refine fit (by simp only [kmin, kmax]; omega) ?_; conv => whnf) | (refine br_t (by assumption) ?_; conv => whnf) | (refine br_f (by assumption) ?_; conv => whnf) | (refine get_of (by assumption) ?_; conv => whnf) | (refine get_map (by assumption) ?_; conv => whnf) | (rw [hcut]; refine brd_f he ?_; conv => whnf) | (refine draw_lex hE ?_ ?_; decide +kernel; conv => whnf) | (refine brd (fun h => ?_) (fun h => ?_) <;> conv => whnf) | (refine br (fun h => ?_) (fun h => ?_) <;> conv => whnf) | (refine ret_now hE ?_; conv => whnf) | (intro hlen; conv => whnf) | (refine seg_here ?_; conv => whnf) | (refine both ?_ ?_ <;> conv => whnf))
      all_goals
        refine hret_up (up_here (hret_now hE ?_))
        conv => whnf
        exact ⟨rfl, rfl, rfl, rfl⟩
  · have hb : eatB s k x = false := decide_eq_false (fun h => by
      have := congrArg List.length h
      simp at this
      have := List.length_pos_iff.2 hx0
      omega)
    unfold eatK
    rw [hb, if_neg (by decide)]
    refine hfnE (T := Tryd.tt) Tryd.func28 rfl tt_all follows_all ?_ ?_ fun C vs hC hE => ?_
    · kernel_rfl
    · exact Nat.le_of_ble_eq_true (by kernel_rfl)
    conv => whnf
    repeat' (first | (refine brd_t (by first | assumption | omega) ?_; conv => whnf) | (refine brd_f (by first | assumption | omega) ?_; conv => whnf) | (refine ask (by first | assumption | omega) ?_; conv => whnf) | (refine fit64 (by omega) ?_; conv => whnf) | (refine fit (by simp only [kmin, kmax]; omega) ?_; conv => whnf) | (refine br_t (by assumption) ?_; conv => whnf) | (refine br_f (by assumption) ?_; conv => whnf) | (refine get_of (by assumption) ?_; conv => whnf) | (refine get_map (by assumption) ?_; conv => whnf) | (refine draw_lex hE ?_ ?_; decide +kernel; conv => whnf) | (refine brd (fun h => ?_) (fun h => ?_) <;> conv => whnf) | (refine br (fun h => ?_) (fun h => ?_) <;> conv => whnf) | (refine ret_now hE ?_; conv => whnf) | (intro hlen; conv => whnf) | (refine seg_here ?_; conv => whnf) | (refine both ?_ ?_ <;> conv => whnf))
    all_goals
      refine hret_up (up_here (hret_now hE ?_))
      conv => whnf
      exact ⟨rfl, rfl, rfl, rfl⟩
def nmT (s : Ys) (k : Nat) : Ys := (s.drop k).takeWhile nmC
theorem nmT_cut (s : Ys) (k : Nat) : List.drop k (List.take (k + (nmT s k).length) s) = nmT s k := by
  rw [List.drop_take, show k + (nmT s k).length - k = (nmT s k).length by omega]
  unfold nmT
  have := List.takeWhile_append_dropWhile (p := nmC) (l := s.drop k)
  conv => lhs; rw [← this]
  rw [this]
  generalize s.drop k = l
  clear this
  induction l with
  | nil => rfl
  | cons x l ih =>
    by_cases hx : nmC x = true
    · simp only [List.takeWhile_cons, hx, if_true, List.length_cons, List.take_succ_cons]
      rw [ih]
    · simp [hx]
theorem span_step {l : Ys} {j : Nat} (hj : j ≤ (l.takeWhile nmC).length) {c : UInt8} (hc : l[j]? = some c) : (nmC c = true → j < (l.takeWhile nmC).length) ∧ (nmC c = false → j = (l.takeWhile nmC).length) := by
  induction l generalizing j with
  | nil => simp at hc
  | cons x l ih =>
    by_cases hx : nmC x = true
    · have e : (x :: l).takeWhile nmC = x :: l.takeWhile nmC := by simp [hx]
      rw [e] at hj ⊢
      cases j with
      | zero =>
        simp at hc; subst hc
        exact ⟨fun _ => by simp, fun h => by rw [hx] at h; cases h⟩
      | succ j =>
        simp only [List.length_cons] at hj ⊢
        obtain ⟨h1, h2⟩ := ih (j := j) (by omega) (by simpa using hc)
        exact ⟨fun h => by have := h1 h; omega, fun h => by have := h2 h; omega⟩
    · have e : (x :: l).takeWhile nmC = [] := by simp [hx]
      rw [e] at hj ⊢
      have : j = 0 := by simpa using hj
      subst this
      simp at hc; subst hc
      exact ⟨fun h => absurd h hx, fun _ => rfl⟩
theorem nmC_iff (c : UInt8) : nmC c = true ↔ (c.toNat = 45 ∨ (97 ≤ c.toNat ∧ c.toNat ≤ 122) ∨ (48 ≤ c.toNat ∧ c.toNat ≤ 57)) := by
  unfold nmC badR isLow isDig
  simp
  omega
set_option maxHeartbeats 8000000 in
theorem h_name (s : Ys) (k : Nat) (hk : k ≤ s.length) (hs : s.length ≤ 1048576) : HFn Tryd.prog 29 [.ptr 0 0 0] (stO s k) [0] (fun r o => r = .str (nmT s k) ∧ o = stO s (k + (nmT s k).length)) := by
  unfold stO
  have hlen : (nmT s k).length ≤ s.length - k := by
    unfold nmT
    exact Nat.le_trans (List.takeWhile_sublist _).length_le (by simp)
  refine hfnE (T := Tryd.tt) Tryd.func29 rfl tt_all follows_all ?_ ?_ fun C vs hC hE => ?_
  · kernel_rfl
  · exact Nat.le_of_ble_eq_true (by kernel_rfl)
  conv => whnf
  repeat' (first | (refine brd_t (by first | assumption | omega) ?_; conv => whnf) | (refine brd_f (by first | assumption | omega) ?_; conv => whnf) | (refine ask (by first | assumption | omega) ?_; conv => whnf) | (refine fit64 (by omega) ?_; conv => whnf) | (refine fit (by simp only [kmin, kmax]; omega) ?_; conv => whnf) | (refine br_t (by assumption) ?_; conv => whnf) | (refine br_f (by assumption) ?_; conv => whnf) | (refine get_of (by assumption) ?_; conv => whnf) | (refine get_map (by assumption) ?_; conv => whnf) | (refine draw_lex hE ?_ ?_; decide +kernel; conv => whnf) | (refine brd (fun h => ?_) (fun h => ?_) <;> conv => whnf) | (refine br (fun h => ?_) (fun h => ?_) <;> conv => whnf) | (refine ret_now hE ?_; conv => whnf) | (intro hlen; conv => whnf) | (refine seg_here ?_; conv => whnf) | (refine both ?_ ?_ <;> conv => whnf))
  refine loopE (fun j : Nat => ⟨95, [(0, .ptr 0 0 0), (3, .int .i64 k)], [some (.row 3 [.agg [.str s, .int .i64 ((k + j : Nat) : Int), .bool false]]), some (.hid vs [.ptr 0 0 0])]⟩) (fun j => j ≤ (nmT s k).length) (fun j => (nmT s k).length - j) 0 hE ?_ ?_ (Nat.zero_le _) ?_
  · kernel_rfl
  · exact at_keep [0, 3] rfl
  intro j hj
  have hj : j ≤ (nmT s k).length := hj
  by_cases hlt : k + j < s.length
  · obtain ⟨c, hc⟩ : ∃ c, s[k + j]? = some c := ⟨_, List.getElem?_eq_getElem hlt⟩
    have hc2 : s[((k + j : Nat) : Int).toNat]? = some c := by rw [Int.toNat_natCast]; exact hc
    obtain ⟨hs1, hs2⟩ := span_step (l := s.drop k) hj (c := c) (by rw [List.getElem?_drop]; exact hc)
    have hci := nmC_iff c
    have hc8 : c.toNat < 256 := c.toNat_lt
    have hcutj : ∀ j, j = (nmT s k).length → List.drop (k : Int).toNat (List.take ((k + j : Nat) : Int).toNat s) = nmT s k := fun j hj => by rw [Int.toNat_natCast, Int.toNat_natCast, hj]; exact nmT_cut s k
    have hne : ∀ h : nmC c = true, j + 1 ≤ (nmT s k).length := fun h => hs1 h
    conv => whnf
    repeat' (first | (refine brd_t (by first | assumption | omega) ?_; conv => whnf) | (refine brd_f (by first | assumption | omega) ?_; conv => whnf) | (refine ask (by first | assumption | omega) ?_; conv => whnf) | (refine fit64 (by omega) ?_; conv => whnf) | (refine fit (by simp only [kmin, kmax]; omega) ?_; conv => whnf) | (refine br_t (by assumption) ?_; conv => whnf) | (refine br_f (by assumption) ?_; conv => whnf) | (refine get_of (by assumption) ?_; conv => whnf) | (refine get_map (by assumption) ?_; conv => whnf) | (refine draw_lex hE ?_ ?_; decide +kernel; conv => whnf) | (refine brd (fun h => ?_) (fun h => ?_) <;> conv => whnf) | (refine br (fun h => ?_) (fun h => ?_) <;> conv => whnf) | (refine ret_now hE ?_; conv => whnf) | (intro hlen; conv => whnf) | (refine seg_here ?_; conv => whnf) | (refine both ?_ ?_ <;> conv => whnf))
    all_goals first
      | (refine next_keep [0, 3] (j + 1) (hne (hci.2 (by omega))) (show (nmT s k).length - (j + 1) < (nmT s k).length - j from by have := hne (hci.2 (by omega)); omega) ?_; rfl)
      | (have hf : j = (nmT s k).length := hs2 (by
          cases h : nmC c with
          | false => rfl
          | true => exact absurd (hci.1 h) (by omega))
         refine hret_up (up_here (hret_now hE ?_))
         conv => whnf
         refine ⟨rfl, rfl, ?_, ?_⟩
         · rw [hcutj j hf]
         · rw [hf])
  · have hj2 : j = (nmT s k).length ∧ k + j = s.length ∨ k + j < s.length := by omega
    have hjj : k + j = s.length := by omega
    have hf : j = (nmT s k).length := by omega
    have hcutj : ∀ j, j = (nmT s k).length → List.drop (k : Int).toNat (List.take ((k + j : Nat) : Int).toNat s) = nmT s k := fun j hj => by rw [Int.toNat_natCast, Int.toNat_natCast, hj]; exact nmT_cut s k
    conv => whnf
    repeat' (first | (refine brd_t (by first | assumption | omega) ?_; conv => whnf) | (refine brd_f (by first | assumption | omega) ?_; conv => whnf) | (refine ask (by first | assumption | omega) ?_; conv => whnf) | (refine fit64 (by omega) ?_; conv => whnf) | (refine fit (by simp only [kmin, kmax]; omega) ?_; conv => whnf) | (refine br_t (by assumption) ?_; conv => whnf) | (refine br_f (by assumption) ?_; conv => whnf) | (refine get_of (by assumption) ?_; conv => whnf) | (refine get_map (by assumption) ?_; conv => whnf) | (refine draw_lex hE ?_ ?_; decide +kernel; conv => whnf) | (refine brd (fun h => ?_) (fun h => ?_) <;> conv => whnf) | (refine br (fun h => ?_) (fun h => ?_) <;> conv => whnf) | (refine ret_now hE ?_; conv => whnf) | (intro hlen; conv => whnf) | (refine seg_here ?_; conv => whnf) | (refine both ?_ ?_ <;> conv => whnf))
    all_goals
      refine hret_up (up_here (hret_now hE ?_))
      conv => whnf
      refine ⟨rfl, rfl, ?_, ?_⟩
      · rw [hcutj j hf]
      · rw [hf]
end Go.Proofs.YtkkcmobnhiiacaaDoor
