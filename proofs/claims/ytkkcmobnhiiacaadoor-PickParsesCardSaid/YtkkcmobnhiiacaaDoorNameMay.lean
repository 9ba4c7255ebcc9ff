/- The document's nameMay, walked. No conditions. -/
import Derived.Test.YtkkcmobnhiiacaaDoorName
set_option linter.unusedSimpArgs false
set_option linter.unusedVariables false
set_option maxRecDepth 100000
namespace Go.Proofs.YtkkcmobnhiiacaaDoor
open Go.RowKit

/-! ### The document's answer: byte by byte -/
def badAt (c : UInt8) (i : Nat) : Bool := !(isLow c.toNat) && (decide (i = 0) || (decide (c.toNat ≠ 45) && !(isDig c.toNat)))
theorem name_good {s : List UInt8} (h1 : 1 ≤ s.length) (h12 : s.length ≤ 12) (h : ∀ (j : Nat) (c : UInt8), s[j]? = some c → badAt c j = false) : nameOk s = true := by
  obtain ⟨c, hc⟩ : ∃ c, s[0]? = some c := ⟨_, List.getElem?_eq_getElem (by omega)⟩
  have h0 := h 0 c hc
  have hlow : isLow c.toNat = true := by unfold badAt at h0; simpa using h0
  have hall : (s.any fun c => badR c.toNat) = false := by
    rw [List.any_eq_false]
    intro d hd
    obtain ⟨j, hj⟩ := List.mem_iff_getElem?.1 hd
    have := h j d hj
    unfold badAt at this
    unfold badR
    cases hl : isLow d.toNat with
    | true => simp
    | false =>
      rw [hl] at this
      simp only [Bool.not_false, Bool.true_and, Bool.or_eq_false_iff, decide_eq_false_iff_not] at this
      cases hd2 : isDig d.toNat with
      | true => simp
      | false =>
        rw [hd2] at this
        simp at this
        simp [this.2]
  unfold nameOk
  rw [bt_head hc, hlow, hall, decide_eq_true h1, decide_eq_true h12]; rfl
theorem name_bad {s : List UInt8} {i : Nat} {c : UInt8} (hc : s[i]? = some c) (hb : badAt c i = true) : nameOk s = false := by
  unfold badAt at hb
  simp only [Bool.and_eq_true, Bool.not_eq_true', Bool.or_eq_true, decide_eq_true_eq] at hb
  unfold nameOk
  rcases hb with ⟨hl, rfl | ⟨h45, hd⟩⟩
  · rw [bt_head hc, hl]; simp
  · have : (s.any fun c => badR c.toNat) = true := by
      rw [List.any_eq_true]
      refine ⟨c, List.mem_of_getElem? hc, ?_⟩
      unfold badR
      rw [hl, hd]
      simpa using h45
    rw [this]; simp
theorem name_next {s : List UInt8} {i : Nat} {c : UInt8} (hc : s[i]? = some c) (hb : badAt c i = false) (hok : ∀ (j : Nat), j < i → ∀ (c : UInt8), s[j]? = some c → badAt c j = false) : ∀ (j : Nat), j < i + 1 → ∀ (c : UInt8), s[j]? = some c → badAt c j = false := by
  intro j hj d hd
  by_cases e : j = i
  · subst e; rw [hc] at hd; cases hd; exact hb
  · exact hok j (by omega) d hd
theorem name_may (s : List UInt8) : Fn1 Tryd.prog 30 [.str s] (fun r => r = .bool (nameOk s)) := by
  refine fn1E (T := Tryd.tt) Tryd.func30 rfl tt_all follows_all ?_ ?_ fun C hC hE => ?_
  · kernel_rfl
  · exact Nat.le_of_ble_eq_true (by kernel_rfl)
  conv => whnf
  repeat' (first | (refine brd_t (by first | assumption | omega) ?_; conv => whnf) | (refine brd_f (by first | assumption | omega) ?_; conv => whnf) | (refine ask (by first | assumption | omega) ?_; conv => whnf) | (refine fit64 (by omega) ?_; conv => whnf) | (refine fit (by simp only [kmin, kmax]; omega) ?_; conv => whnf) | (refine br_t (by assumption) ?_; conv => whnf) | (refine br_f (by assumption) ?_; conv => whnf) | (refine get_of (by assumption) ?_; conv => whnf) | (refine get_map (by assumption) ?_; conv => whnf) | (refine draw_lex hE ?_ ?_; decide +kernel; conv => whnf) | (refine brd (fun h => ?_) (fun h => ?_) <;> conv => whnf) | (refine br (fun h => ?_) (fun h => ?_) <;> conv => whnf) | (refine ret_now hE ?_; conv => whnf) | (intro hlen; conv => whnf) | (refine seg_here ?_; conv => whnf) | (refine both ?_ ?_ <;> conv => whnf))
  · exact ⟨rfl, by congr 1; unfold nameOk; rw [eq_comm, decide_eq_false (p := 1 ≤ s.length) (by omega)]; simp⟩
  · exact ⟨rfl, by congr 1; unfold nameOk; rw [eq_comm, decide_eq_false (p := s.length ≤ 12) (by omega)]; simp⟩
  refine loopE (fun i : Nat => ⟨47, [(0, .str s), (3, .int .i64 i)], []⟩) (fun i => i ≤ s.length ∧ ∀ (j : Nat), j < i → ∀ (c : UInt8), s[j]? = some c → badAt c j = false) (fun i => s.length - i) 0 hE ?_ ?_ ⟨Nat.zero_le _, fun j hj => by omega⟩ ?_
  · kernel_rfl
  · exact at_keep [0, 3] rfl
  intro i hi
  obtain ⟨hi, hok⟩ := hi
  by_cases hlt : i < s.length
  · obtain ⟨c, hc⟩ : ∃ c, s[i]? = some c := ⟨_, List.getElem?_eq_getElem hlt⟩
    conv => whnf
    repeat' (first | (refine brd_t (by first | assumption | omega) ?_; conv => whnf) | (refine brd_f (by first | assumption | omega) ?_; conv => whnf) | (refine ask (by first | assumption | omega) ?_; conv => whnf) | (refine fit64 (by omega) ?_; conv => whnf) | (refine fit (by simp only [kmin, kmax]; omega) ?_; conv => whnf) | (refine br_t (by assumption) ?_; conv => whnf) | (refine br_f (by assumption) ?_; conv => whnf) | (refine get_of (by assumption) ?_; conv => whnf) | (refine get_map (by assumption) ?_; conv => whnf) | (refine draw_lex hE ?_ ?_; decide +kernel; conv => whnf) | (refine brd (fun h => ?_) (fun h => ?_) <;> conv => whnf) | (refine br (fun h => ?_) (fun h => ?_) <;> conv => whnf) | (refine ret_now hE ?_; conv => whnf) | (intro hlen; conv => whnf) | (refine seg_here ?_; conv => whnf) | (refine both ?_ ?_ <;> conv => whnf))
    all_goals first
      | exact next_keep [0, 3] (i + 1) ⟨hlt, name_next hc (by unfold badAt isLow isDig; simp; omega) hok⟩ (by omega) rfl
      | exact ⟨rfl, by congr 1; exact (name_bad hc (by unfold badAt isLow isDig; simp; omega)).symm⟩
  · conv => whnf
    repeat' (first | (refine brd_t (by first | assumption | omega) ?_; conv => whnf) | (refine brd_f (by first | assumption | omega) ?_; conv => whnf) | (refine ask (by first | assumption | omega) ?_; conv => whnf) | (refine fit64 (by omega) ?_; conv => whnf) | (refine fit (by simp only [kmin, kmax]; omega) ?_; conv => whnf) | (refine br_t (by assumption) ?_; conv => whnf) | (refine br_f (by assumption) ?_; conv => whnf) | (refine get_of (by assumption) ?_; conv => whnf) | (refine get_map (by assumption) ?_; conv => whnf) | (refine draw_lex hE ?_ ?_; decide +kernel; conv => whnf) | (refine brd (fun h => ?_) (fun h => ?_) <;> conv => whnf) | (refine br (fun h => ?_) (fun h => ?_) <;> conv => whnf) | (refine ret_now hE ?_; conv => whnf) | (intro hlen; conv => whnf) | (refine seg_here ?_; conv => whnf) | (refine both ?_ ?_ <;> conv => whnf))
    exact ⟨rfl, by congr 1; exact (name_good (by omega) (by omega) (fun j c hj => hok j (by have := (List.getElem?_eq_some_iff.1 hj).1; omega) c hj)).symm⟩
theorem index_str (l : List (List UInt8)) (q : List UInt8) : Fn1 Tryd.prog 91 [.lst (l.map V.str), .str q] (fun r => r = .int .i64 (idxOf (fun x => decide (q = x)) l)) := by
  refine fn1E (T := Tryd.tt) Tryd.func91 rfl tt_all follows_all ?_ ?_ fun C hC hE => ?_
  · kernel_rfl
  · exact Nat.le_of_ble_eq_true (by kernel_rfl)
  conv => whnf
  intro hl
  conv => whnf
  refine loopE (fun k : Nat => ⟨19, [(0, .lst (l.map V.str)), (1, .str q), (7, .int .i64 (l.map V.str).length), (8, .int .i64 k)], []⟩) (fun k => k ≤ l.length ∧ ∀ j < k, ∀ x, l[j]? = some x → decide (q = x) = false) (fun k => l.length - k) 0 hE ?_ ?_ ?_ ?_
  · kernel_rfl
  · exact at_keep [0, 1, 7, 8] rfl
  · exact ⟨Nat.zero_le _, fun j hj => by omega⟩
  intro k hkj
  obtain ⟨hk, hj⟩ := hkj
  have hlm : (l.map V.str).length = l.length := by simp
  by_cases hlt : k < l.length
  · obtain ⟨x, hx⟩ : ∃ x, l[k]? = some x := ⟨_, List.getElem?_eq_getElem hlt⟩
    conv => whnf
    repeat' (first | (refine brd_t (by first | assumption | omega) ?_; conv => whnf) | (refine brd_f (by first | assumption | omega) ?_; conv => whnf) | (refine ask (by first | assumption | omega) ?_; conv => whnf) | (refine fit64 (by omega) ?_; conv => whnf) | (refine fit (by simp only [kmin, kmax]; omega) ?_; conv => whnf) | (refine br_t (by assumption) ?_; conv => whnf) | (refine br_f (by assumption) ?_; conv => whnf) | (refine get_of (by assumption) ?_; conv => whnf) | (refine get_map (by assumption) ?_; conv => whnf) | (refine draw_lex hE ?_ ?_; decide +kernel; conv => whnf) | (refine brd (fun h => ?_) (fun h => ?_) <;> conv => whnf) | (refine br (fun h => ?_) (fun h => ?_) <;> conv => whnf) | (refine ret_now hE ?_; conv => whnf) | (intro hlen; conv => whnf) | (refine seg_here ?_; conv => whnf) | (refine both ?_ ?_ <;> conv => whnf))
    · exact ⟨rfl, by rw [idxOf_hit hx (decide_eq_true (by assumption)) hj]⟩
    · refine next_keep [0, 1, 7, 8] (k + 1) ⟨hlt, ?_⟩ (by omega) rfl
      intro j hjk y hy
      by_cases e : j = k
      · subst e; rw [hx] at hy; cases hy; exact decide_eq_false (by assumption)
      · exact hj j (by omega) y hy
  · conv => whnf
    repeat' (first | (refine brd_t (by first | assumption | omega) ?_; conv => whnf) | (refine brd_f (by first | assumption | omega) ?_; conv => whnf) | (refine ask (by first | assumption | omega) ?_; conv => whnf) | (refine fit64 (by omega) ?_; conv => whnf) | (refine fit (by simp only [kmin, kmax]; omega) ?_; conv => whnf) | (refine br_t (by assumption) ?_; conv => whnf) | (refine br_f (by assumption) ?_; conv => whnf) | (refine get_of (by assumption) ?_; conv => whnf) | (refine get_map (by assumption) ?_; conv => whnf) | (refine draw_lex hE ?_ ?_; decide +kernel; conv => whnf) | (refine brd (fun h => ?_) (fun h => ?_) <;> conv => whnf) | (refine br (fun h => ?_) (fun h => ?_) <;> conv => whnf) | (refine ret_now hE ?_; conv => whnf) | (intro hlen; conv => whnf) | (refine seg_here ?_; conv => whnf) | (refine both ?_ ?_ <;> conv => whnf))
    exact ⟨rfl, by rw [idxOf_miss (fun x hx => by obtain ⟨j, hj'⟩ := List.mem_iff_getElem?.1 hx; exact hj j (by have := (List.getElem?_eq_some_iff.1 hj').1; omega) x hj')]⟩

theorem contains_str (l : List (List UInt8)) (q : List UInt8) : Fn1 Tryd.prog 64 [.lst (l.map V.str), .str q] (fun r => r = .bool (decide (q ∈ l))) := by
  have ha := idxOf_any (fun x => decide (q = x)) l
  have hb : decide (q ∈ l) = l.any (fun x => decide (q = x)) := by rw [Bool.eq_iff_iff]; simp
  refine fn1E (T := Tryd.tt) Tryd.func64 rfl tt_all follows_all ?_ ?_ fun C hC hE => ?_
  · kernel_rfl
  · exact Nat.le_of_ble_eq_true (by kernel_rfl)
  conv => whnf
  repeat' (first | (refine brd_t (by first | assumption | omega) ?_; conv => whnf) | (refine brd_f (by first | assumption | omega) ?_; conv => whnf) | (refine ask (by first | assumption | omega) ?_; conv => whnf) | (refine fit64 (by omega) ?_; conv => whnf) | (refine fit (by simp only [kmin, kmax]; omega) ?_; conv => whnf) | (refine br_t (by assumption) ?_; conv => whnf) | (refine br_f (by assumption) ?_; conv => whnf) | (refine get_of (by assumption) ?_; conv => whnf) | (refine get_map (by assumption) ?_; conv => whnf) | (refine call_eq (index_str _ _) hC hasBody_91 ?_ ?_ ?_; kernel_rfl; kernel_rfl; conv => whnf) | (refine callq_eq (index_str _ _) hC hasBody_91 ?_ ?_ ?_; kernel_rfl; kernel_rfl; conv => whnf) | (refine draw_lex hE ?_ ?_; decide +kernel; conv => whnf) | (refine brd (fun h => ?_) (fun h => ?_) <;> conv => whnf) | (refine br (fun h => ?_) (fun h => ?_) <;> conv => whnf) | (refine ret_now hE ?_; conv => whnf) | (intro hlen; conv => whnf) | (refine seg_here ?_; conv => whnf) | (refine both ?_ ?_ <;> conv => whnf))
  all_goals exact ⟨rfl, by rw [hb, ← ha]; congr 1; first | exact (decide_eq_true (by assumption)).symm | exact (decide_eq_false (by assumption)).symm⟩

end Go.Proofs.YtkkcmobnhiiacaaDoor
