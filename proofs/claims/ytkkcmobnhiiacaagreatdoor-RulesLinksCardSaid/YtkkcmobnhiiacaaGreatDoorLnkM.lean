/- rules.Links; the document's RulesLinks; both walked; the law. No conditions. -/
import Derived.Test.YtkkcmobnhiiacaaGreatDoorLib
import Derived.Test.YtkkcmobnhiiacaaGreatDoorData
import Derived.Test.YtkkcmobnhiiacaaGreatDoorUrlScM
import Derived.Handy
import Derived.Laws.AppendOwn
import Derived.Test.YtkkcmobnhiiacaaGreatDoorOwn
import Derived.Test.YtkkcmobnhiiacaaGreatDoorAwy
/-! slices.Contains at strings and the document's oneOf, walked. No conditions. -/
set_option linter.unusedSimpArgs false
set_option linter.unusedVariables false
set_option maxRecDepth 100000
namespace Go.Proofs.YtkkcmobnhiiacaaGreatDoor
open Go.RowKit

theorem index_str (l : List (List UInt8)) (q : List UInt8) : Fn1 Tryz.prog 24 [.lst (l.map V.str), .str q] (fun r => r = .int .i64 (idxOf (fun x => decide (q = x)) l)) := by
  refine fn1E (T := Tryz.tt) Tryz.func24 rfl tt_all follows_all ?_ ?_ fun C hC hE => ?_
  · kernel_rfl
  · exact Nat.le_of_ble_eq_true (by kernel_rfl)
  conv => whnf
  intro hl
  conv => whnf
  refine loopE (fun k : Nat => ⟨19, [(0, .lst (l.map V.str)), (1, .str q), (7, .int .i64 (l.map V.str).length), (8, .int .i64 k)], []⟩) (fun k => k ≤ l.length ∧ ∀ j < k, ∀ x, l[j]? = some x → decide (q = x) = false) (fun k => l.length - k) 0 hE ?_ ?_ ?_ ?_
  · kernel_rfl
  · exact at_keep [0, 1, 7, 8] rfl
  · exact ⟨Nat.zero_le _, fun j hj => by omega⟩
  intro k hkj
  obtain ⟨hk, hj⟩ := hkj
  have hlm : (l.map V.str).length = l.length := by simp
  by_cases hlt : k < l.length
  · obtain ⟨x, hx⟩ : ∃ x, l[k]? = some x := ⟨_, List.getElem?_eq_getElem hlt⟩
    conv => whnf
    repeat' (first | (refine brd_t (by first | assumption | omega) ?_; conv => whnf) | (refine brd_f (by first | assumption | omega) ?_; conv => whnf) | (refine ask (by first | assumption | omega) ?_; conv => whnf) | (refine fit64 (by omega) ?_; conv => whnf) | (refine fit (by simp only [kmin, kmax]; omega) ?_; conv => whnf) | (refine br_t (by assumption) ?_; conv => whnf) | (refine br_f (by assumption) ?_; conv => whnf) | (refine get_of (by assumption) ?_; conv => whnf) | (refine get_map (by assumption) ?_; conv => whnf) | (refine draw_lex hE ?_ ?_; decide +kernel; conv => whnf) | (refine brd (fun h => ?_) (fun h => ?_) <;> conv => whnf) | (refine br (fun h => ?_) (fun h => ?_) <;> conv => whnf) | (refine ret_now hE ?_; conv => whnf) | (intro hlen; conv => whnf) | (refine seg_here ?_; conv => whnf) | (refine both ?_ ?_ <;> conv => whnf))
    · exact ⟨rfl, by rw [idxOf_hit hx (decide_eq_true (by assumption)) hj]⟩
    · refine next_keep [0, 1, 7, 8] (k + 1) ⟨hlt, ?_⟩ (by omega) rfl
      intro j hjk y hy
      by_cases e : j = k
      · subst e; rw [hx] at hy; cases hy; exact decide_eq_false (by assumption)
      · exact hj j (by omega) y hy
  · conv => whnf
    repeat' (first | (refine brd_t (by first | assumption | omega) ?_; conv => whnf) | (refine brd_f (by first | assumption | omega) ?_; conv => whnf) | (refine ask (by first | assumption | omega) ?_; conv => whnf) | (refine fit64 (by omega) ?_; conv => whnf) | (refine fit (by simp only [kmin, kmax]; omega) ?_; conv => whnf) | (refine br_t (by assumption) ?_; conv => whnf) | (refine br_f (by assumption) ?_; conv => whnf) | (refine get_of (by assumption) ?_; conv => whnf) | (refine get_map (by assumption) ?_; conv => whnf) | (refine draw_lex hE ?_ ?_; decide +kernel; conv => whnf) | (refine brd (fun h => ?_) (fun h => ?_) <;> conv => whnf) | (refine br (fun h => ?_) (fun h => ?_) <;> conv => whnf) | (refine ret_now hE ?_; conv => whnf) | (intro hlen; conv => whnf) | (refine seg_here ?_; conv => whnf) | (refine both ?_ ?_ <;> conv => whnf))
    exact ⟨rfl, by rw [idxOf_miss (fun x hx => by obtain ⟨j, hj'⟩ := List.mem_iff_getElem?.1 hx; exact hj j (by have := (List.getElem?_eq_some_iff.1 hj').1; omega) x hj')]⟩

theorem contains_str (l : List (List UInt8)) (q : List UInt8) : Fn1 Tryz.prog 16 [.lst (l.map V.str), .str q] (fun r => r = .bool (decide (q ∈ l))) := by
  have ha := idxOf_any (fun x => decide (q = x)) l
  have hb : decide (q ∈ l) = l.any (fun x => decide (q = x)) := by rw [Bool.eq_iff_iff]; simp
  refine fn1E (T := Tryz.tt) Tryz.func16 rfl tt_all follows_all ?_ ?_ fun C hC hE => ?_
  · kernel_rfl
  · exact Nat.le_of_ble_eq_true (by kernel_rfl)
  conv => whnf
  repeat' (first | (refine brd_t (by first | assumption | omega) ?_; conv => whnf) | (refine brd_f (by first | assumption | omega) ?_; conv => whnf) | (refine ask (by first | assumption | omega) ?_; conv => whnf) | (refine fit64 (by omega) ?_; conv => whnf) | (refine fit (by simp only [kmin, kmax]; omega) ?_; conv => whnf) | (refine br_t (by assumption) ?_; conv => whnf) | (refine br_f (by assumption) ?_; conv => whnf) | (refine get_of (by assumption) ?_; conv => whnf) | (refine get_map (by assumption) ?_; conv => whnf) | (refine call_eq (index_str _ _) hC hasBody_24 ?_ ?_ ?_; kernel_rfl; kernel_rfl; conv => whnf) | (refine callq_eq (index_str _ _) hC hasBody_24 ?_ ?_ ?_; kernel_rfl; kernel_rfl; conv => whnf) | (refine draw_lex hE ?_ ?_; decide +kernel; conv => whnf) | (refine brd (fun h => ?_) (fun h => ?_) <;> conv => whnf) | (refine br (fun h => ?_) (fun h => ?_) <;> conv => whnf) | (refine ret_now hE ?_; conv => whnf) | (intro hlen; conv => whnf) | (refine seg_here ?_; conv => whnf) | (refine both ?_ ?_ <;> conv => whnf))
  all_goals exact ⟨rfl, by rw [hb, ← ha]; congr 1; first | exact (decide_eq_true (by assumption)).symm | exact (decide_eq_false (by assumption)).symm⟩

theorem one_of (q : List UInt8) (L : List (List UInt8)) : Fn1 Tryz.prog 19 [.str q, .lst (L.map V.str)] (fun r => r = .bool (decide (q ∈ L))) := by
  have hlm : (L.map V.str).length = L.length := by simp
  refine fn1E (T := Tryz.tt) Tryz.func19 rfl tt_all follows_all ?_ ?_ fun C hC hE => ?_
  · kernel_rfl
  · exact Nat.le_of_ble_eq_true (by kernel_rfl)
  conv => whnf
  intro hl
  conv => whnf
  refine loopE (fun k : Nat => ⟨17, [(0, .str q), (7, .lst (L.map V.str)), (8, .int .i64 (L.map V.str).length), (9, .int .i64 k)], []⟩) (fun k => k ≤ L.length ∧ ∀ j < k, ∀ x, L[j]? = some x → x ≠ q) (fun k => L.length - k) 0 hE ?_ ?_ ⟨Nat.zero_le _, fun j hj => by omega⟩ ?_
  · kernel_rfl
  · exact at_keep [0, 7, 8, 9] rfl
  intro k hk
  obtain ⟨hk, hj⟩ := hk
  by_cases hlt : k < L.length
  · obtain ⟨x, hx⟩ : ∃ x, L[k]? = some x := ⟨_, List.getElem?_eq_getElem hlt⟩
    conv => whnf
    repeat' (first | (refine brd_t (by first | assumption | omega) ?_; conv => whnf) | (refine brd_f (by first | assumption | omega) ?_; conv => whnf) | (refine ask (by first | assumption | omega) ?_; conv => whnf) | (refine fit64 (by omega) ?_; conv => whnf) | (refine fit (by simp only [kmin, kmax]; omega) ?_; conv => whnf) | (refine br_t (by assumption) ?_; conv => whnf) | (refine br_f (by assumption) ?_; conv => whnf) | (refine get_of (by assumption) ?_; conv => whnf) | (refine get_map (by assumption) ?_; conv => whnf) | (refine draw_lex hE ?_ ?_; decide +kernel; conv => whnf) | (refine brd (fun h => ?_) (fun h => ?_) <;> conv => whnf) | (refine br (fun h => ?_) (fun h => ?_) <;> conv => whnf) | (refine ret_now hE ?_; conv => whnf) | (intro hlen; conv => whnf) | (refine seg_here ?_; conv => whnf) | (refine both ?_ ?_ <;> conv => whnf))
    · refine ⟨rfl, ?_⟩
      have h : q = x := by assumption
      rw [h, decide_eq_true (List.mem_of_getElem? hx)]
    · refine next_keep [0, 7, 8, 9] (k + 1) ⟨hlt, fun j hjk x' hx' => ?_⟩ (by omega) rfl
      by_cases e : j = k
      · subst e; rw [hx] at hx'; cases hx'; exact fun h => absurd h.symm (by assumption)
      · exact hj j (by omega) x' hx'
  · conv => whnf
    repeat' (first | (refine brd_t (by first | assumption | omega) ?_; conv => whnf) | (refine brd_f (by first | assumption | omega) ?_; conv => whnf) | (refine ask (by first | assumption | omega) ?_; conv => whnf) | (refine fit64 (by omega) ?_; conv => whnf) | (refine fit (by simp only [kmin, kmax]; omega) ?_; conv => whnf) | (refine br_t (by assumption) ?_; conv => whnf) | (refine br_f (by assumption) ?_; conv => whnf) | (refine get_of (by assumption) ?_; conv => whnf) | (refine get_map (by assumption) ?_; conv => whnf) | (refine draw_lex hE ?_ ?_; decide +kernel; conv => whnf) | (refine brd (fun h => ?_) (fun h => ?_) <;> conv => whnf) | (refine br (fun h => ?_) (fun h => ?_) <;> conv => whnf) | (refine ret_now hE ?_; conv => whnf) | (intro hlen; conv => whnf) | (refine seg_here ?_; conv => whnf) | (refine both ?_ ?_ <;> conv => whnf))
    refine ⟨rfl, ?_⟩
    rw [decide_eq_false]
    intro hm
    obtain ⟨j, hj'⟩ := List.mem_iff_getElem?.1 hm
    exact hj j (by have := (List.getElem?_eq_some_iff.1 hj').1; omega) q hj' rfl
end Go.Proofs.YtkkcmobnhiiacaaGreatDoor

/-! Safe addresses: what both sides answer; both walked. No conditions. -/
namespace Go.Proofs.YtkkcmobnhiiacaaGreatDoor
open Go.RowKit

def badS (x : List UInt8) : Bool := !(schR (urlS (x ++ [58]))).2 || !decide ((schR (urlS (x ++ [58]))).1 = x)
def codeS (l : List (List UInt8)) : Int := if 40 < l.length then 1 else if l.any badS = true then 4 else 0
def ofS (s : List UInt8) (l : List (List UInt8)) : Bool := !(schR (urlS s)).2 || decide ((schR (urlS s)).1 ∈ l)
/-- Texts that may be read. -/
def Strs (l : List (List UInt8)) : Prop := ∀ x ∈ l, x.length ≤ 140737488351232
theorem any_bad_hit {l : List (List UInt8)} {k : Nat} {x : List UInt8} (hx : l[k]? = some x) (h : badS x = true) : l.any badS = true := List.any_eq_true.2 ⟨x, List.mem_of_getElem? hx, h⟩
theorem any_bad_miss {l : List (List UInt8)} (h : ∀ j < l.length, ∀ x, l[j]? = some x → badS x = false) : l.any badS = false := by
  rw [List.any_eq_false]
  intro x hx
  obtain ⟨j, hj⟩ := List.mem_iff_getElem?.1 hx
  rw [h j (List.getElem?_eq_some_iff.1 hj).1 x hj]
  decide
theorem not_bad_next {l : List (List UInt8)} {k : Nat} {x : List UInt8} (hj : ∀ j < k, ∀ x, l[j]? = some x → badS x = false) (hx : l[k]? = some x) (h : badS x = false) : ∀ j < k + 1, ∀ x, l[j]? = some x → badS x = false := by
  intro j hj' y hy
  by_cases e : j = k
  · subst e; rw [hx] at hy; cases hy; exact h
  · exact hj j (by omega) y hy
set_option maxHeartbeats 8000000 in
theorem url_schemes (l : List (List UInt8)) (hL : Strs l) : Fn1 Tryz.prog 7 [.lst (l.map V.str)] (fun r => r = .int .i64 (codeS l)) := by
  have hlm : (l.map V.str).length = l.length := by simp
  refine fn1E (T := Tryz.tt) Tryz.func7 rfl tt_all follows_all ?_ ?_ fun C hC hE => ?_
  · kernel_rfl
  · exact Nat.le_of_ble_eq_true (by kernel_rfl)
  conv => whnf
  by_cases h40 : 40 < l.length
  · rw [show codeS l = 1 from if_pos h40]
    repeat' (first | (refine brd_t (by first | assumption | omega) ?_; conv => whnf) | (refine brd_f (by first | assumption | omega) ?_; conv => whnf) | (refine ask (by first | assumption | omega) ?_; conv => whnf) | (refine fit64 (by omega) ?_; conv => whnf) | (refine fit (by simp only [kmin, kmax]; omega) ?_; conv => whnf) | (refine br_t (by assumption) ?_; conv => whnf) | (refine br_f (by assumption) ?_; conv => whnf) | (refine get_of (by assumption) ?_; conv => whnf) | (refine get_map (by assumption) ?_; conv => whnf) | (refine draw_lex hE ?_ ?_; decide +kernel; conv => whnf) | (refine brd (fun h => ?_) (fun h => ?_) <;> conv => whnf) | (refine br (fun h => ?_) (fun h => ?_) <;> conv => whnf) | (refine ret_now hE ?_; conv => whnf) | (intro hlen; conv => whnf) | (refine seg_here ?_; conv => whnf) | (refine both ?_ ?_ <;> conv => whnf))
    all_goals exact ⟨rfl, rfl⟩
  · rw [show codeS l = if l.any badS = true then 4 else 0 from if_neg h40]
    repeat' (first | (refine brd_t (by first | assumption | omega) ?_; conv => whnf) | (refine brd_f (by first | assumption | omega) ?_; conv => whnf) | (refine ask (by first | assumption | omega) ?_; conv => whnf) | (refine fit64 (by omega) ?_; conv => whnf) | (refine fit (by simp only [kmin, kmax]; omega) ?_; conv => whnf) | (refine br_t (by assumption) ?_; conv => whnf) | (refine br_f (by assumption) ?_; conv => whnf) | (refine get_of (by assumption) ?_; conv => whnf) | (refine get_map (by assumption) ?_; conv => whnf) | (refine draw_lex hE ?_ ?_; decide +kernel; conv => whnf) | (refine brd (fun h => ?_) (fun h => ?_) <;> conv => whnf) | (refine br (fun h => ?_) (fun h => ?_) <;> conv => whnf) | (refine ret_now hE ?_; conv => whnf) | (intro hlen; conv => whnf) | (refine seg_here ?_; conv => whnf) | (refine both ?_ ?_ <;> conv => whnf))
    refine loopE (fun k : Nat => ⟨30, [(10, .lst (l.map V.str)), (11, .int .i64 (l.map V.str).length), (12, .int .i64 k)], []⟩) (fun k => k ≤ l.length ∧ ∀ j < k, ∀ x, l[j]? = some x → badS x = false) (fun k => l.length - k) 0 hE ?_ ?_ ⟨Nat.zero_le _, fun j hj => by omega⟩ ?_
    · kernel_rfl
    · exact at_keep [10, 11, 12] rfl
    rintro k ⟨hk, hj⟩
    have hk : k ≤ l.length := hk
    by_cases hlt : k < l.length
    · obtain ⟨x, hx⟩ : ∃ x, l[k]? = some x := ⟨_, List.getElem?_eq_getElem hlt⟩
      have hxl := hL x (List.mem_of_getElem? hx)
      have h1 := url_scheme (x ++ [58]) (by simp; omega)
      have hb : badS x = (!(schR (urlS (x ++ [58]))).2 || !decide ((schR (urlS (x ++ [58]))).1 = x)) := rfl
      obtain ⟨y, hy⟩ : ∃ y, y = (schR (urlS (x ++ [58]))).1 := ⟨_, rfl⟩
      obtain ⟨b, hbb⟩ : ∃ b, b = (schR (urlS (x ++ [58]))).2 := ⟨_, rfl⟩
      rw [← hy, ← hbb] at h1 hb
      clear hy hbb
      cases b with
      | false =>
        rw [any_bad_hit hx hb, if_pos rfl]
        conv => whnf
        repeat' (first | (refine brd_t (by first | assumption | omega) ?_; conv => whnf) | (refine brd_f (by first | assumption | omega) ?_; conv => whnf) | (refine ask (by first | assumption | omega) ?_; conv => whnf) | (refine fit64 (by omega) ?_; conv => whnf) | (refine fit (by simp only [kmin, kmax]; omega) ?_; conv => whnf) | (refine br_t (by assumption) ?_; conv => whnf) | (refine br_f (by assumption) ?_; conv => whnf) | (refine get_of (by assumption) ?_; conv => whnf) | (refine get_map (by assumption) ?_; conv => whnf) | (refine call_eq (h1) hC hasBody_12 ?_ ?_ ?_; kernel_rfl; kernel_rfl; conv => whnf) | (refine callq_eq (h1) hC hasBody_12 ?_ ?_ ?_; kernel_rfl; kernel_rfl; conv => whnf) | (refine ask ?_ ?_; (show x.length + 1 ≤ _; omega); conv => whnf) | (refine draw_lex hE ?_ ?_; decide +kernel; conv => whnf) | (refine brd (fun h => ?_) (fun h => ?_) <;> conv => whnf) | (refine br (fun h => ?_) (fun h => ?_) <;> conv => whnf) | (refine ret_now hE ?_; conv => whnf) | (intro hlen; conv => whnf) | (refine seg_here ?_; conv => whnf) | (refine both ?_ ?_ <;> conv => whnf))
        all_goals exact ⟨rfl, rfl⟩
      | true =>
        by_cases he : y = x
        · subst he
          have hb : badS y = false := by rw [hb]; simp
          conv => whnf
          repeat' (first | (refine brd_t (by first | assumption | omega) ?_; conv => whnf) | (refine brd_f (by first | assumption | omega) ?_; conv => whnf) | (refine ask (by first | assumption | omega) ?_; conv => whnf) | (refine fit64 (by omega) ?_; conv => whnf) | (refine fit (by simp only [kmin, kmax]; omega) ?_; conv => whnf) | (refine br_t (by assumption) ?_; conv => whnf) | (refine br_f (by assumption) ?_; conv => whnf) | (refine get_of (by assumption) ?_; conv => whnf) | (refine get_map (by assumption) ?_; conv => whnf) | (refine call_eq (h1) hC hasBody_12 ?_ ?_ ?_; kernel_rfl; kernel_rfl; conv => whnf) | (refine callq_eq (h1) hC hasBody_12 ?_ ?_ ?_; kernel_rfl; kernel_rfl; conv => whnf) | (refine ask ?_ ?_; (show y.length + 1 ≤ _; omega); conv => whnf) | (refine brd_t rfl ?_; conv => whnf) | (refine draw_lex hE ?_ ?_; decide +kernel; conv => whnf) | (refine brd (fun h => ?_) (fun h => ?_) <;> conv => whnf) | (refine br (fun h => ?_) (fun h => ?_) <;> conv => whnf) | (refine ret_now hE ?_; conv => whnf) | (intro hlen; conv => whnf) | (refine seg_here ?_; conv => whnf) | (refine both ?_ ?_ <;> conv => whnf))
          all_goals first | (exfalso; exact absurd rfl h) | exact next_keep [10, 11, 12] (k + 1) ⟨hlt, not_bad_next hj hx hb⟩ (show l.length - (k + 1) < l.length - k by omega) rfl
        · have hb : badS x = true := by rw [hb]; simp [he]
          rw [any_bad_hit hx hb, if_pos rfl]
          conv => whnf
          repeat' (first | (refine brd_t (by first | assumption | omega) ?_; conv => whnf) | (refine brd_f (by first | assumption | omega) ?_; conv => whnf) | (refine ask (by first | assumption | omega) ?_; conv => whnf) | (refine fit64 (by omega) ?_; conv => whnf) | (refine fit (by simp only [kmin, kmax]; omega) ?_; conv => whnf) | (refine br_t (by assumption) ?_; conv => whnf) | (refine br_f (by assumption) ?_; conv => whnf) | (refine get_of (by assumption) ?_; conv => whnf) | (refine get_map (by assumption) ?_; conv => whnf) | (refine call_eq (h1) hC hasBody_12 ?_ ?_ ?_; kernel_rfl; kernel_rfl; conv => whnf) | (refine callq_eq (h1) hC hasBody_12 ?_ ?_ ?_; kernel_rfl; kernel_rfl; conv => whnf) | (refine ask ?_ ?_; (show x.length + 1 ≤ _; omega); conv => whnf) | (refine draw_lex hE ?_ ?_; decide +kernel; conv => whnf) | (refine brd (fun h => ?_) (fun h => ?_) <;> conv => whnf) | (refine br (fun h => ?_) (fun h => ?_) <;> conv => whnf) | (refine ret_now hE ?_; conv => whnf) | (intro hlen; conv => whnf) | (refine seg_here ?_; conv => whnf) | (refine both ?_ ?_ <;> conv => whnf))
          all_goals exact ⟨rfl, rfl⟩
    · have hkl : k = l.length := by omega
      subst hkl
      rw [any_bad_miss hj, if_neg (by decide)]
      conv => whnf
      repeat' (first | (refine brd_t (by first | assumption | omega) ?_; conv => whnf) | (refine brd_f (by first | assumption | omega) ?_; conv => whnf) | (refine ask (by first | assumption | omega) ?_; conv => whnf) | (refine fit64 (by omega) ?_; conv => whnf) | (refine fit (by simp only [kmin, kmax]; omega) ?_; conv => whnf) | (refine br_t (by assumption) ?_; conv => whnf) | (refine br_f (by assumption) ?_; conv => whnf) | (refine get_of (by assumption) ?_; conv => whnf) | (refine get_map (by assumption) ?_; conv => whnf) | (refine draw_lex hE ?_ ?_; decide +kernel; conv => whnf) | (refine brd (fun h => ?_) (fun h => ?_) <;> conv => whnf) | (refine br (fun h => ?_) (fun h => ?_) <;> conv => whnf) | (refine ret_now hE ?_; conv => whnf) | (intro hlen; conv => whnf) | (refine seg_here ?_; conv => whnf) | (refine both ?_ ?_ <;> conv => whnf))
      all_goals exact ⟨rfl, rfl⟩
theorem url_of (s : List UInt8) (l : List (List UInt8)) (hs : s.length ≤ 140737488351232) : Fn1 Tryz.prog 17 [.str s, .lst (l.map V.str)] (fun r => r = .bool (ofS s l)) := by
  have h1 := url_scheme s (by omega)
  have hb : ofS s l = (!(schR (urlS s)).2 || decide ((schR (urlS s)).1 ∈ l)) := rfl
  obtain ⟨y, hy⟩ : ∃ y, y = (schR (urlS s)).1 := ⟨_, rfl⟩
  obtain ⟨b, hbb⟩ : ∃ b, b = (schR (urlS s)).2 := ⟨_, rfl⟩
  rw [← hy, ← hbb] at h1 hb
  clear hy hbb
  have h2 := contains_str l y
  rw [hb]
  cases b with
  | false =>
    refine fn1E (T := Tryz.tt) Tryz.func17 rfl tt_all follows_all ?_ ?_ fun C hC hE => ?_
    · kernel_rfl
    · exact Nat.le_of_ble_eq_true (by kernel_rfl)
    conv => whnf
    repeat' (first | (refine brd_t (by first | assumption | omega) ?_; conv => whnf) | (refine brd_f (by first | assumption | omega) ?_; conv => whnf) | (refine ask (by first | assumption | omega) ?_; conv => whnf) | (refine fit64 (by omega) ?_; conv => whnf) | (refine fit (by simp only [kmin, kmax]; omega) ?_; conv => whnf) | (refine br_t (by assumption) ?_; conv => whnf) | (refine br_f (by assumption) ?_; conv => whnf) | (refine get_of (by assumption) ?_; conv => whnf) | (refine get_map (by assumption) ?_; conv => whnf) | (refine call_eq (h1) hC hasBody_12 ?_ ?_ ?_; kernel_rfl; kernel_rfl; conv => whnf) | (refine callq_eq (h1) hC hasBody_12 ?_ ?_ ?_; kernel_rfl; kernel_rfl; conv => whnf) | (refine draw_lex hE ?_ ?_; decide +kernel; conv => whnf) | (refine brd (fun h => ?_) (fun h => ?_) <;> conv => whnf) | (refine br (fun h => ?_) (fun h => ?_) <;> conv => whnf) | (refine ret_now hE ?_; conv => whnf) | (intro hlen; conv => whnf) | (refine seg_here ?_; conv => whnf) | (refine both ?_ ?_ <;> conv => whnf))
    all_goals exact ⟨rfl, rfl⟩
  | true =>
    cases hm : decide (y ∈ l)
    all_goals
      rw [hm] at h2
      refine fn1E (T := Tryz.tt) Tryz.func17 rfl tt_all follows_all ?_ ?_ fun C hC hE => ?_
      · kernel_rfl
      · exact Nat.le_of_ble_eq_true (by kernel_rfl)
      conv => whnf
      repeat' (first | (refine brd_t (by first | assumption | omega) ?_; conv => whnf) | (refine brd_f (by first | assumption | omega) ?_; conv => whnf) | (refine ask (by first | assumption | omega) ?_; conv => whnf) | (refine fit64 (by omega) ?_; conv => whnf) | (refine fit (by simp only [kmin, kmax]; omega) ?_; conv => whnf) | (refine br_t (by assumption) ?_; conv => whnf) | (refine br_f (by assumption) ?_; conv => whnf) | (refine get_of (by assumption) ?_; conv => whnf) | (refine get_map (by assumption) ?_; conv => whnf) | (refine call_eq (h1) hC hasBody_12 ?_ ?_ ?_; kernel_rfl; kernel_rfl; conv => whnf) | (refine callq_eq (h1) hC hasBody_12 ?_ ?_ ?_; kernel_rfl; kernel_rfl; conv => whnf) | (refine call_eq (h2) hC hasBody_16 ?_ ?_ ?_; kernel_rfl; kernel_rfl; conv => whnf) | (refine callq_eq (h2) hC hasBody_16 ?_ ?_ ?_; kernel_rfl; kernel_rfl; conv => whnf) | (refine draw_lex hE ?_ ?_; decide +kernel; conv => whnf) | (refine brd (fun h => ?_) (fun h => ?_) <;> conv => whnf) | (refine br (fun h => ?_) (fun h => ?_) <;> conv => whnf) | (refine ret_now hE ?_; conv => whnf) | (intro hlen; conv => whnf) | (refine seg_here ?_; conv => whnf) | (refine both ?_ ?_ <;> conv => whnf))
      all_goals exact ⟨rfl, rfl⟩
set_option maxHeartbeats 8000000 in
theorem ref_safe (s : List UInt8) (l : List (List UInt8)) (hs : s.length ≤ 140737488351232) (hL : Strs l) : Fn1 Tryz.prog 9 [.str s, .lst (l.map V.str)] (fun r => r = .tup [.bool (decide (codeS l = 0) && ofS s l), .int .i64 (codeS l)]) := by
  have hlm : (l.map V.str).length = l.length := by simp
  by_cases h40 : 40 < l.length
  · rw [show codeS l = 1 from if_pos h40]
    refine fn1E (T := Tryz.tt) Tryz.func9 rfl tt_all follows_all ?_ ?_ fun C hC hE => ?_
    · kernel_rfl
    · exact Nat.le_of_ble_eq_true (by kernel_rfl)
    conv => whnf
    repeat' (first | (refine brd_t (by first | assumption | omega) ?_; conv => whnf) | (refine brd_f (by first | assumption | omega) ?_; conv => whnf) | (refine ask (by first | assumption | omega) ?_; conv => whnf) | (refine fit64 (by omega) ?_; conv => whnf) | (refine fit (by simp only [kmin, kmax]; omega) ?_; conv => whnf) | (refine br_t (by assumption) ?_; conv => whnf) | (refine br_f (by assumption) ?_; conv => whnf) | (refine get_of (by assumption) ?_; conv => whnf) | (refine get_map (by assumption) ?_; conv => whnf) | (refine draw_lex hE ?_ ?_; decide +kernel; conv => whnf) | (refine brd (fun h => ?_) (fun h => ?_) <;> conv => whnf) | (refine br (fun h => ?_) (fun h => ?_) <;> conv => whnf) | (refine ret_now hE ?_; conv => whnf) | (intro hlen; conv => whnf) | (refine seg_here ?_; conv => whnf) | (refine both ?_ ?_ <;> conv => whnf))
    all_goals exact ⟨rfl, rfl⟩
  · rw [show codeS l = if l.any badS = true then 4 else 0 from if_neg h40]
    refine fn1E (T := Tryz.tt) Tryz.func9 rfl tt_all follows_all ?_ ?_ fun C hC hE => ?_
    · kernel_rfl
    · exact Nat.le_of_ble_eq_true (by kernel_rfl)
    conv => whnf
    repeat' (first | (refine brd_t (by first | assumption | omega) ?_; conv => whnf) | (refine brd_f (by first | assumption | omega) ?_; conv => whnf) | (refine ask (by first | assumption | omega) ?_; conv => whnf) | (refine fit64 (by omega) ?_; conv => whnf) | (refine fit (by simp only [kmin, kmax]; omega) ?_; conv => whnf) | (refine br_t (by assumption) ?_; conv => whnf) | (refine br_f (by assumption) ?_; conv => whnf) | (refine get_of (by assumption) ?_; conv => whnf) | (refine get_map (by assumption) ?_; conv => whnf) | (refine draw_lex hE ?_ ?_; decide +kernel; conv => whnf) | (refine brd (fun h => ?_) (fun h => ?_) <;> conv => whnf) | (refine br (fun h => ?_) (fun h => ?_) <;> conv => whnf) | (refine ret_now hE ?_; conv => whnf) | (intro hlen; conv => whnf) | (refine seg_here ?_; conv => whnf) | (refine both ?_ ?_ <;> conv => whnf))
    refine loopE (fun k : Nat => ⟨47, [(0, .str s), (1, .lst (l.map V.str)), (15, .lst (l.map V.str)), (16, .int .i64 (l.map V.str).length), (17, .int .i64 k)], []⟩) (fun k => k ≤ l.length ∧ ∀ j < k, ∀ x, l[j]? = some x → badS x = false) (fun k => l.length - k) 0 hE ?_ ?_ ⟨Nat.zero_le _, fun j hj => by omega⟩ ?_
    · kernel_rfl
    · exact at_keep [0, 1, 15, 16, 17] rfl
    rintro k ⟨hk, hj⟩
    have hk : k ≤ l.length := hk
    by_cases hlt : k < l.length
    · obtain ⟨x, hx⟩ : ∃ x, l[k]? = some x := ⟨_, List.getElem?_eq_getElem hlt⟩
      have hxl := hL x (List.mem_of_getElem? hx)
      have h1 := ref_scheme (x ++ [58]) (by simp; omega)
      have hb : badS x = (!(schR (urlS (x ++ [58]))).2 || !decide ((schR (urlS (x ++ [58]))).1 = x)) := rfl
      obtain ⟨y, hy⟩ : ∃ y, y = (schR (urlS (x ++ [58]))).1 := ⟨_, rfl⟩
      obtain ⟨b, hbb⟩ : ∃ b, b = (schR (urlS (x ++ [58]))).2 := ⟨_, rfl⟩
      rw [← hy, ← hbb] at h1 hb
      clear hy hbb
      cases b with
      | false =>
        rw [any_bad_hit hx hb, if_pos rfl]
        conv => whnf
        repeat' (first | (refine brd_t (by first | assumption | omega) ?_; conv => whnf) | (refine brd_f (by first | assumption | omega) ?_; conv => whnf) | (refine ask (by first | assumption | omega) ?_; conv => whnf) | (refine fit64 (by omega) ?_; conv => whnf) | (refine fit (by simp only [kmin, kmax]; omega) ?_; conv => whnf) | (refine br_t (by assumption) ?_; conv => whnf) | (refine br_f (by assumption) ?_; conv => whnf) | (refine get_of (by assumption) ?_; conv => whnf) | (refine get_map (by assumption) ?_; conv => whnf) | (refine call_eq (h1) hC hasBody_18 ?_ ?_ ?_; kernel_rfl; kernel_rfl; conv => whnf) | (refine callq_eq (h1) hC hasBody_18 ?_ ?_ ?_; kernel_rfl; kernel_rfl; conv => whnf) | (refine ask ?_ ?_; (show x.length + 1 ≤ _; omega); conv => whnf) | (refine draw_lex hE ?_ ?_; decide +kernel; conv => whnf) | (refine brd (fun h => ?_) (fun h => ?_) <;> conv => whnf) | (refine br (fun h => ?_) (fun h => ?_) <;> conv => whnf) | (refine ret_now hE ?_; conv => whnf) | (intro hlen; conv => whnf) | (refine seg_here ?_; conv => whnf) | (refine both ?_ ?_ <;> conv => whnf))
        all_goals exact ⟨rfl, rfl⟩
      | true =>
        by_cases he : y = x
        · subst he
          have hb : badS y = false := by rw [hb]; simp
          conv => whnf
          repeat' (first | (refine brd_t (by first | assumption | omega) ?_; conv => whnf) | (refine brd_f (by first | assumption | omega) ?_; conv => whnf) | (refine ask (by first | assumption | omega) ?_; conv => whnf) | (refine fit64 (by omega) ?_; conv => whnf) | (refine fit (by simp only [kmin, kmax]; omega) ?_; conv => whnf) | (refine br_t (by assumption) ?_; conv => whnf) | (refine br_f (by assumption) ?_; conv => whnf) | (refine get_of (by assumption) ?_; conv => whnf) | (refine get_map (by assumption) ?_; conv => whnf) | (refine call_eq (h1) hC hasBody_18 ?_ ?_ ?_; kernel_rfl; kernel_rfl; conv => whnf) | (refine callq_eq (h1) hC hasBody_18 ?_ ?_ ?_; kernel_rfl; kernel_rfl; conv => whnf) | (refine ask ?_ ?_; (show y.length + 1 ≤ _; omega); conv => whnf) | (refine brd_t rfl ?_; conv => whnf) | (refine draw_lex hE ?_ ?_; decide +kernel; conv => whnf) | (refine brd (fun h => ?_) (fun h => ?_) <;> conv => whnf) | (refine br (fun h => ?_) (fun h => ?_) <;> conv => whnf) | (refine ret_now hE ?_; conv => whnf) | (intro hlen; conv => whnf) | (refine seg_here ?_; conv => whnf) | (refine both ?_ ?_ <;> conv => whnf))
          all_goals first | (exfalso; exact absurd rfl h) | exact next_keep [0, 1, 15, 16, 17] (k + 1) ⟨hlt, not_bad_next hj hx hb⟩ (show l.length - (k + 1) < l.length - k by omega) rfl
        · have hb : badS x = true := by rw [hb]; simp [he]
          have he2 : ¬ x = y := fun e => he e.symm
          rw [any_bad_hit hx hb, if_pos rfl]
          conv => whnf
          repeat' (first | (refine brd_t (by first | assumption | omega) ?_; conv => whnf) | (refine brd_f (by first | assumption | omega) ?_; conv => whnf) | (refine ask (by first | assumption | omega) ?_; conv => whnf) | (refine fit64 (by omega) ?_; conv => whnf) | (refine fit (by simp only [kmin, kmax]; omega) ?_; conv => whnf) | (refine br_t (by assumption) ?_; conv => whnf) | (refine br_f (by assumption) ?_; conv => whnf) | (refine get_of (by assumption) ?_; conv => whnf) | (refine get_map (by assumption) ?_; conv => whnf) | (refine call_eq (h1) hC hasBody_18 ?_ ?_ ?_; kernel_rfl; kernel_rfl; conv => whnf) | (refine callq_eq (h1) hC hasBody_18 ?_ ?_ ?_; kernel_rfl; kernel_rfl; conv => whnf) | (refine ask ?_ ?_; (show x.length + 1 ≤ _; omega); conv => whnf) | (refine draw_lex hE ?_ ?_; decide +kernel; conv => whnf) | (refine brd (fun h => ?_) (fun h => ?_) <;> conv => whnf) | (refine br (fun h => ?_) (fun h => ?_) <;> conv => whnf) | (refine ret_now hE ?_; conv => whnf) | (intro hlen; conv => whnf) | (refine seg_here ?_; conv => whnf) | (refine both ?_ ?_ <;> conv => whnf))
          all_goals exact ⟨rfl, rfl⟩
    · have hkl : k = l.length := by omega
      subst hkl
      rw [any_bad_miss hj, if_neg (by decide)]
      have h1 := ref_scheme s (by omega)
      have hb : ofS s l = (!(schR (urlS s)).2 || decide ((schR (urlS s)).1 ∈ l)) := rfl
      obtain ⟨y, hy⟩ : ∃ y, y = (schR (urlS s)).1 := ⟨_, rfl⟩
      obtain ⟨b, hbb⟩ : ∃ b, b = (schR (urlS s)).2 := ⟨_, rfl⟩
      rw [← hy, ← hbb] at h1 hb
      clear hy hbb
      have h2 := one_of y l
      rw [hb]
      cases b with
      | false =>
        conv => whnf
        repeat' (first | (refine brd_t (by first | assumption | omega) ?_; conv => whnf) | (refine brd_f (by first | assumption | omega) ?_; conv => whnf) | (refine ask (by first | assumption | omega) ?_; conv => whnf) | (refine fit64 (by omega) ?_; conv => whnf) | (refine fit (by simp only [kmin, kmax]; omega) ?_; conv => whnf) | (refine br_t (by assumption) ?_; conv => whnf) | (refine br_f (by assumption) ?_; conv => whnf) | (refine get_of (by assumption) ?_; conv => whnf) | (refine get_map (by assumption) ?_; conv => whnf) | (refine call_eq (h1) hC hasBody_18 ?_ ?_ ?_; kernel_rfl; kernel_rfl; conv => whnf) | (refine callq_eq (h1) hC hasBody_18 ?_ ?_ ?_; kernel_rfl; kernel_rfl; conv => whnf) | (refine draw_lex hE ?_ ?_; decide +kernel; conv => whnf) | (refine brd (fun h => ?_) (fun h => ?_) <;> conv => whnf) | (refine br (fun h => ?_) (fun h => ?_) <;> conv => whnf) | (refine ret_now hE ?_; conv => whnf) | (intro hlen; conv => whnf) | (refine seg_here ?_; conv => whnf) | (refine both ?_ ?_ <;> conv => whnf))
        all_goals exact ⟨rfl, rfl⟩
      | true =>
        cases hm : decide (y ∈ l)
        all_goals
          rw [hm] at h2
          conv => whnf
          repeat' (first | (refine brd_t (by first | assumption | omega) ?_; conv => whnf) | (refine brd_f (by first | assumption | omega) ?_; conv => whnf) | (refine ask (by first | assumption | omega) ?_; conv => whnf) | (refine fit64 (by omega) ?_; conv => whnf) | (refine fit (by simp only [kmin, kmax]; omega) ?_; conv => whnf) | (refine br_t (by assumption) ?_; conv => whnf) | (refine br_f (by assumption) ?_; conv => whnf) | (refine get_of (by assumption) ?_; conv => whnf) | (refine get_map (by assumption) ?_; conv => whnf) | (refine call_eq (h1) hC hasBody_18 ?_ ?_ ?_; kernel_rfl; kernel_rfl; conv => whnf) | (refine callq_eq (h1) hC hasBody_18 ?_ ?_ ?_; kernel_rfl; kernel_rfl; conv => whnf) | (refine call_eq (h2) hC hasBody_19 ?_ ?_ ?_; kernel_rfl; kernel_rfl; conv => whnf) | (refine callq_eq (h2) hC hasBody_19 ?_ ?_ ?_; kernel_rfl; kernel_rfl; conv => whnf) | (refine draw_lex hE ?_ ?_; decide +kernel; conv => whnf) | (refine brd (fun h => ?_) (fun h => ?_) <;> conv => whnf) | (refine br (fun h => ?_) (fun h => ?_) <;> conv => whnf) | (refine ret_now hE ?_; conv => whnf) | (intro hlen; conv => whnf) | (refine seg_here ?_; conv => whnf) | (refine both ?_ ?_ <;> conv => whnf))
          all_goals exact ⟨rfl, rfl⟩
end Go.Proofs.YtkkcmobnhiiacaaGreatDoor

/-! clear upon the end of an own row: what is cleared is forgotten. No conditions. -/
namespace Go.Proofs.YtkkcmobnhiiacaaGreatDoor
open Go.RowKit

theorem zero_cells_one {zv : Array Value} (h : ∀ u ∈ zv.toList, u.oneCell' = true) (n : Nat) : ∀ u ∈ (Builtin.zeroCells zv n).toList, u.oneCell' = true := by
  intro u hu
  simp only [Builtin.zeroCells, Array.toList_map, List.mem_map] at hu
  obtain ⟨i, hi, rfl⟩ := hu
  have hi : i < n * zv.size := by simpa using hi
  have hz : 0 < zv.size := by
    rcases Nat.eq_zero_or_pos zv.size with h0 | h0
    · rw [h0] at hi; omega
    · exact h0
  have hlt := Nat.mod_lt i hz
  rw [getElem!_pos zv (i % zv.size) hlt]
  exact h _ (by simp)
theorem opn_clear {C : Ctx} {P : Program} {K : V → ES → Prop} {σ : ES} (hC : C.P = P) {t e : TypeId} {i : TypeInfo} {zv : Value} (hu : P.underlying t = some (.slice e)) (hi : P.info? e = some i) (hz : i.zero = some zv) {z : Nat} (hzl : zv.cells.size = z) (hz1 : ∀ u ∈ zv.cells.toList, u.oneCell' = true)
    {x : Operand} (id off len : Nat) {els : List V} (hx : σ.val x = .sl id off len) (hrow : σ.heap[id]? = some (some (.row z els))) (hoff : off ≤ els.length) (h0 : 0 < len)
    (hK : fH (σ.heap.set id (some (.row z (els.take off)))) fun h => K (.tup []) ⟨σ.n, σ.u, h⟩) : OpN C (.call { callee := .builtin .clear, args := #[x], argTypes := #[t] }) K σ := by
  subst hC
  rw [fH_eq] at hK
  refine ⟨fun o ho => opOk_value fun a w I bl hp => ?_⟩
  have hv := hp.val x
  rw [es_val, hx] at hv
  rcases hv.inv_sl with ⟨base, z', _, _, h5, _⟩ | ⟨a', i', _, h5, _⟩ | ⟨cap, b, base, z', n, e', h1, h2, h3, h4, h5, h6⟩
  · omega
  · omega
  obtain ⟨bi, g1, g2, g3, g4⟩ := hp.heap.obj id _ hrow
  rw [h1] at g1
  simp only [Option.some.injEq] at g1
  subst g1
  simp only at g2
  subst g2
  simp only at g4
  obtain ⟨cur, e2, hg, hsz, hc⟩ := g4
  have hsh := hg.shape
  rw [h2] at hsh
  simp only [Option.some.injEq, Prod.mk.injEq] at hsh
  obtain ⟨rfl, rfl⟩ := hsh
  have hzc : (Builtin.zeroCells zv.cells len).size = len * z' := by rw [size_zeroCells, hzl]
  have hm : (off + len) * z' ≤ (off + cap) * z' := Nat.mul_le_mul_right _ (by omega)
  have hm2 : (off + len) * z' = off * z' + len * z' := Nat.add_mul _ _ _
  have hfit : base + off * z' + (Builtin.zeroCells zv.cells len).size ≤ cur.size := by rw [hzc]; omega
  obtain ⟨fz, hfz, hgh⟩ := hg
  have hst := run_storeCells_thaw (z := z') (P := C.P) b (base + off * z') e' fz (Builtin.zeroCells zv.cells len).toList 0 cur w hgh hfz (by simpa using hfit) (zero_cells_one hz1 len)
  simp only [Nat.add_zero] at hst
  have hrun : (Builtin.clear_ #[t] o.type #[.slice (some ⟨b, base + off * z', none⟩) len cap]).run C.P w = .ok (.tuple #[]) (w.setRow b (cur.toList.take (base + off * z') ++ (Builtin.zeroCells zv.cells len).toList ++ cur.toList.drop (base + off * z' + (Builtin.zeroCells zv.cells len).toList.length)).toArray) := by
    cases len with
    | zero => omega
    | succ k => simp [Builtin.clear_, run_underlying hu, zeroValue, typeInfo, hi, hz, hst]
  have hmo : (els.take off).length * z' ≤ off * z' := Nat.mul_le_mul_right _ (by simp; omega)
  have hw := hp.write h1 ⟨fz, hfz, hgh⟩ (cur.toList.take (base + off * z') ++ (Builtin.zeroCells zv.cells len).toList ++ cur.toList.drop (base + off * z' + (Builtin.zeroCells zv.cells len).toList.length)).toArray (by simp at hfit ⊢; omega) (els.take off)
      (fun k y hy => by
        rw [List.getElem?_take] at hy
        split at hy
        · exact g3 k y hy
        · cases hy) (by simp at hfit hmo ⊢; omega) (fun k y j c hy hc' => by
        rw [List.getElem?_take] at hy
        split at hy
        · rename_i hk
          obtain ⟨u, hu1, hu2, hu3⟩ := hc k y j c hy hc'
          refine ⟨u, ?_, hu2, hu3⟩
          have hj : j < z' := by rw [← g3 k y hy]; exact (List.getElem?_eq_some_iff.1 hc').1
          have hkm : (k + 1) * z' ≤ off * z' := Nat.mul_le_mul_right _ hk
          rw [Nat.add_mul, Nat.one_mul] at hkm
          have hlt : base + k * z' + j < cur.size := (Array.getElem?_eq_some_iff.1 hu1).1
          have : base + k * z' + j < base + off * z' := by omega
          simp only [List.getElem?_toArray]
          rw [List.append_assoc, List.getElem?_append_left (by simp; omega), List.getElem?_take, if_pos this]
          simpa using hu1
        · cases hy)
  have hr1 : RelX C (⟨σ.n, σ.u, σ.heap.set id (some (.row z' (els.take off)))⟩ : ES).st [.tup []] a _ [.tuple #[]] := hw.relx (.pure _ _ (.tup [] [] rfl (fun i v c hv => by simp at hv)))
  exact ⟨.tuple #[], _, .tup [], _, by simp [execOp, ho, resolve, invoke, builtin, h6, hrun], kst hK, hr1⟩
end Go.Proofs.YtkkcmobnhiiacaaGreatDoor

/-! Calls that give a new object of the caller's own: slices.Clone. No conditions. -/
namespace Go.Proofs.YtkkcmobnhiiacaaGreatDoor
open Go.RowKit

/-- A new empty object, of which nothing is known but that it is there. -/
theorem up_new {C : Ctx} {K : ES → Prop} (z : Nat) {n : Nat} {u : List (Nat × V)} {h : List (Option Ob)} (hk : UpE C K ⟨n, u, putOb h (.row z [])⟩) : UpE C K ⟨n, u, h⟩ := by
  refine ⟨up_of_rel (fun a w hr => ?_) hk.out⟩
  obtain ⟨I, bl, hp⟩ := hr.parts
  exact (hp.adopt z).rel
/-- A call that fills a new object of the caller's. -/
theorem call_fresh {C : Ctx} {P : Program} {f : FuncId} {z m : Nat} {els' xs0 xs1 : List V} {fop : Operand} {args : List Operand} {K : V → ES → Prop} {σ : ES} (h : HFn P f xs0 [.row z []] [] (fun r o => r = .sl 0 0 m ∧ o = [.row z els'])) (hC : C.P = P) (hb : hasBody P f = true)
    (p : Nat) (he : evalC σ fop args = some (f, xs1)) (hx : rnL 1 (fun _ => p) xs0 xs1) (hrow : σ.heap[p]? = some (some (.row z []))) (hn' : nrL els')
    (hK : killUE p σ.u fun u => fH ((killH p σ.heap).set p (some (.row z els'))) fun h => K (.sl p 0 m) ⟨σ.n, u, h⟩) : CallN C fop args f xs1 K σ := by
  rw [killUE_eq, fH_eq] at hK
  refine call_h h hC hb he (fun _ => p) ?_ ?_ ?_ [p] ?_ ?_ ?_
  · intro i j hi hj _
    simp at hi hj
    omega
  · exact hx
  · intro j o ho
    match j, ho with
    | 0, ho =>
      simp at ho
      subst ho
      exact ⟨_, hrow, [], rfl, rnL_self trivial⟩
    | n + 1, ho => simp at ho
  · intro j _ hn
    exact absurd (by simp) hn
  · intro id hid
    simp at hid
    exact ⟨0, by simp, hid.symm⟩
  · rintro r0 objs' ⟨rfl, rfl⟩ _
    refine ⟨.sl p 0 m, [.row z els'], by simp [rnV], rfl, ?_, hK⟩
    intro j o o' ho ho'
    match j, ho, ho' with
    | 0, ho, ho' =>
      simp at ho ho'
      subst ho; subst ho'
      exact ⟨els', rfl, rnL_self hn'⟩
    | n + 1, ho, _ => simp at ho
/-- Such a call, whatever the heap holds. -/
theorem fresh_c {C : Ctx} {f : FuncId} {z m : Nat} {els' xs : List V} (h : HFn C.P f xs [.row z []] [] (fun r o => r = .sl 0 0 m ∧ o = [.row z els'])) (hx : nrL xs) (hn' : nrL els') : FreshC C f xs m z els' := by
  rintro s a w vs ⟨I, bl, hdef, henv, hxs, hH⟩
  have hH : HeapRep C s.heap w I bl := hH
  generalize hp : freshIn s.heap = p
  have hpn : ∀ o, s.heap[p]? ≠ some (some o) := fun o ho => by
    have : ∀ (h : List (Option Ob)) (o : Ob), h[freshIn h]? ≠ some (some o) := by
      intro h
      induction h with
      | nil => intro o ho; simp [freshIn] at ho
      | cons x r ih =>
        intro o ho
        cases x with
        | none => simp [freshIn] at ho
        | some y => exact ih o (by simpa [freshIn] using ho)
    exact this s.heap o (by rw [hp]; exact ho)
  have hblp : bl p = none := by
    cases hb : bl p with
    | none => rfl
    | some i =>
      obtain ⟨o, ho⟩ := hH.live p i hb
      exact absurd ho (hpn o)
  let blc : Nat → Option BI := fun j => if j = 0 then some ⟨none, 0, z⟩ else none
  have hblk : ∀ b, ¬ blocksOf blc b := by
    rintro b ⟨j, i, h1, h2⟩
    by_cases hj : j = 0
    · simp only [blc, if_pos hj, Option.some.injEq] at h1
      subst h1
      cases h2
    · simp only [blc, if_neg hj] at h1
      cases h1
  have hHc : HeapRep ⟨C.P, w, blocksOf blc, I⟩ ([Ob.row z []].map some) w I blc := by
    refine ⟨fun j o ho => ?_, fun j i hj => ?_, fun j j' i i' b h1 h2 h3 h4 => ?_, fun j i b h1 h2 => absurd ⟨j, i, h1, h2⟩ (hblk b), fun b hb => ⟨(hH.imm b hb).1, .inl hb⟩, Kept.refl _ _⟩
    · cases j with
      | zero =>
        simp at ho
        subst ho
        exact ⟨_, rfl, rfl, fun i x hx => by simp at hx, rfl⟩
      | succ j => simp at ho
    · by_cases e : j = 0
      · subst e; exact ⟨_, rfl⟩
      · simp only [blc, if_neg e] at hj; cases hj
    · exact absurd ⟨j, i, h1, h3⟩ (hblk b)
  refine (h w I blc vs hxs.1 (fun i v x hv hx' => ?_) hHc).mono ?_
  · have hself := rnL_self (k := 0) (ρ := id) hx
    obtain ⟨hxl, hxr⟩ := rnL_get hself
    exact rep_down (k := 0) (ρ := id) (fun j hj => absurd hj (Nat.not_lt_zero j)) x v x (hxr i x x hx' hx') (hxs.2 i v x hv hx')
  rintro e w' ⟨v, r0, objs', I', bl', rfl, ⟨rfl, rfl⟩, _, hrep, hH', _⟩
  have hown' : ∀ j i b, bl' j = some i → i.blk = some b → b < w'.heap.size ∧ ¬ I' b ∧ (blocksOf blc b ∨ w.heap.size ≤ b) := fun j i b h1 h2 => hH'.own j i b h1 h2
  have hown0 : ∀ j i b, bl' j = some i → i.blk = some b → w.heap.size ≤ b := fun j i b h1 h2 => (hown' j i b h1 h2).2.2.elim (fun h => absurd h (hblk b)) id
  have hkeep : ∀ b, b < w.heap.size → w'.heap[b]? = w.heap[b]? := fun b h1 => hH'.kept.block b h1 (hblk b)
  have hsize : w.heap.size ≤ w'.heap.size := hH'.kept.size
  have hlater : Later I w w' := ⟨fun b hb => hkeep b (hH.imm b hb).1, hH'.kept.shape⟩
  let I2 : Nat → Prop := fun b => I b ∨ I' b
  let bl2 : Nat → Option BI := fun id => if id = p then bl' 0 else bl id
  have hin : ∀ j, j < 1 → bl2 ((fun _ => p) j) = bl' j := fun j hj => by
    have : j = 0 := by omega
    subst this
    simp only [bl2, if_pos rfl]
  have hout : ∀ id, id ≠ p → bl2 id = bl id := fun id hid => by simp only [bl2, if_neg hid]
  have hbl2 : ∀ id i, bl id = some i → bl2 id = some i := fun id i hi => by
    by_cases e : id = p
    · subst e; rw [hblp] at hi; cases hi
    · rw [hout id e]; exact hi
  have hI2 : ∀ b, I b → I2 b := fun b hb => .inl hb
  have hI2' : ∀ b, I' b → I2 b := fun b hb => .inr hb
  have hI'cases : ∀ b, I' b → b < w'.heap.size ∧ (I b ∨ w.heap.size ≤ b) := fun b hb => by
    obtain ⟨g1, g2⟩ := hH'.imm b hb
    exact ⟨g1, g2.elim .inl fun h => h.elim (fun h => absurd h (hblk b)) .inr⟩
  have hoth : ∀ id, id ≠ p → (putOb s.heap (.row z els'))[id]? = s.heap[id]? := fun id hid => putOb_other _ _ _ (by rw [hp]; exact hid)
  have hatp : (putOb s.heap (.row z els'))[p]? = some (some (.row z els')) := by rw [← hp]; exact putOb_fresh _ _
  refine ⟨v, .sl p 0 m, ⟨s.env, putOb s.heap (.row z els')⟩, rfl, ⟨rfl, rfl⟩, I2, bl2, hdef, henv.later hlater hI2 hbl2, ⟨rfl, fun i v' x hv hx' => ?_⟩, ?_⟩
  · cases i with
    | succ i => simp at hv
    | zero =>
      simp at hv hx'
      subst hv; subst hx'
      exact rep_up hI2' hin hrep _ (by simp [rnV])
  · refine ⟨fun id o ho => ?_, fun id i hi => ?_, fun id id' i i' b h1 h2 h3 h4 => ?_, fun id i b h1 h2 => ?_, fun b hb => ?_, ?_⟩
    · have ho : (putOb s.heap (.row z els'))[id]? = some (some o) := ho
      by_cases e : id = p
      · subst e
        rw [hatp] at ho
        simp only [Option.some.injEq] at ho
        subst ho
        exact ob_up (ρ := fun _ => id) hI2' hin (Nat.lt_succ_self 0) (o := .row z els') (o' := .row z els') ⟨els', rfl, rnL_self hn'⟩ (hH'.obj 0 _ rfl)
      · rw [hoth id e] at ho
        exact (hH.obj id o ho).later hlater hI2 hbl2 (fun i b h1 h2 => hkeep b (hH.own id i b h1 h2).1) (fun h => by rw [hout id e]; exact h)
    · show ∃ o, (putOb s.heap (.row z els'))[id]? = some (some o)
      by_cases e : id = p
      · subst e; exact ⟨_, hatp⟩
      · rw [hoth id e]
        rw [hout id e] at hi
        exact hH.live id i hi
    · by_cases e : id = p
      · by_cases e' : id' = p
        · rw [e, e']
        · rw [hout id' e'] at h2
          rw [e] at h1
          have h1 : bl' 0 = some i := by rw [← hin 0 (by omega)]; exact h1
          have := hown0 0 i b h1 h3
          have := (hH.own id' i' b h2 h4).1
          omega
      · rw [hout id e] at h1
        by_cases e' : id' = p
        · rw [e'] at h2
          have h2 : bl' 0 = some i' := by rw [← hin 0 (by omega)]; exact h2
          have := hown0 0 i' b h2 h4
          have := (hH.own id i b h1 h3).1
          omega
        · rw [hout id' e'] at h2
          exact hH.apart id id' i i' b h1 h2 h3 h4
    · by_cases e : id = p
      · rw [e] at h1
        have h1 : bl' 0 = some i := by rw [← hin 0 (by omega)]; exact h1
        have g0 := hown0 0 i b h1 h2
        obtain ⟨g1, g2, _⟩ := hown' 0 i b h1 h2
        refine ⟨g1, fun hb => ?_, .inr (Nat.le_trans hH.kept.size g0)⟩
        rcases hb with hb | hb
        · have := (hH.imm b hb).1; omega
        · exact g2 hb
      · rw [hout id e] at h1
        obtain ⟨g1, g2, g3⟩ := hH.own id i b h1 h2
        refine ⟨Nat.lt_of_lt_of_le g1 hsize, fun hb => ?_, g3⟩
        rcases hb with hb | hb
        · exact g2 hb
        · rcases (hI'cases b hb).2 with h5 | h5
          · exact g2 h5
          · omega
    · rcases hb with hb | hb
      · obtain ⟨g1, g2⟩ := hH.imm b hb
        exact ⟨Nat.lt_of_lt_of_le g1 hsize, g2⟩
      · obtain ⟨g1, g2⟩ := hI'cases b hb
        refine ⟨g1, ?_⟩
        rcases g2 with g2 | g2
        · exact (hH.imm b g2).2
        · exact .inr (.inr (Nat.le_trans hH.kept.size g2))
    · have hk1 := hH.kept
      have hk2 := hH'.kept
      refine ⟨hk2.os.trans hk1.os, hk2.tape.trans hk1.tape, hk2.output.trans hk1.output, Nat.le_trans hk1.size hsize, fun b h1 h2 => ?_, fun b s hs => hk2.shape b s (hk1.shape b s hs)⟩
      have hlt : b < w.heap.size := Nat.lt_of_lt_of_le h1 hk1.size
      rw [hkeep b hlt]
      exact hk1.block b h1 h2
/-- In a region that draws its order. -/
theorem callm {C : Ctx} {P : Program} {f : FuncId} {z m : Nat} {els' xs : List V} {K : Nat → Nat → List V → Prop} (h : HFn P f xs [.row z []] [] (fun r o => r = .sl 0 0 m ∧ o = [.row z els'])) (hC : C.P = P) (hb : hasBody P f = true) (hx : nrL xs) (hn' : nrL els') (hK : K m z els') : CallNM C f xs K := by
  subst hC
  exact ⟨m, z, els', hb, fresh_c h hx hn', hK⟩
/-- A call of a method on an own variable: it stays where it lies. -/
theorem call_mth {C : Ctx} {P : Program} {f : FuncId} {z : Nat} {els els' xs0 : List V} {R0 : V} {fop : Operand} {args : List Operand} {K : V → ES → Prop} {σ : ES} (h : HFn P f (.ptr 0 0 0 :: xs0) [.row z els] [0] (fun r o => r = R0 ∧ o = [.row z els'])) (hC : C.P = P) (hb : hasBody P f = true)
    (p : Nat) (he : evalC σ fop args = some (f, .ptr p 0 0 :: xs0)) (hx : nrL xs0) (hR : R0.nr) (hrow : σ.heap[p]? = some (some (.row z els))) (hn : nrL els) (hn' : nrL els')
    (hK : fH (σ.heap.set p (some (.row z els'))) fun h => K R0 ⟨σ.n, σ.u, h⟩) : CallN C fop args f (.ptr p 0 0 :: xs0) K σ := by
  rw [fH_eq] at hK
  refine call_h h hC hb he (fun _ => p) ?_ ?_ ?_ [] ?_ ?_ ?_
  · intro i j hi hj _
    simp at hi hj
    omega
  · simp only [rnL]
    exact ⟨.ptr p 0 0, xs0, rfl, by simp [rnV], rnL_self hx⟩
  · intro j o ho
    match j, ho with
    | 0, ho =>
      simp at ho
      subst ho
      exact ⟨_, hrow, els, rfl, rnL_self hn⟩
    | n + 1, ho => simp at ho
  · intro j hj _
    simp at hj
    subst hj
    simp
  · intro id hid
    simp at hid
  · rintro r0 objs' ⟨rfl, rfl⟩ _
    refine ⟨r0, [.row z els'], rnV_nr r0 hR, rfl, ?_, by rw [killUM_nil]; exact hK⟩
    intro j o o' ho ho'
    match j, ho, ho' with
    | 0, ho, ho' =>
      simp at ho ho'
      subst ho; subst ho'
      exact ⟨els', rfl, rnL_self hn'⟩
    | n + 1, ho, _ => simp at ho
theorem Rep.nl {w : World} {I : Nat → Prop} {bl : Nat → Option BI} {v : Value} {x : V} (h : Rep w I bl v x) : Rep w I bl v x.nl := by
  induction h with
  | pure v x h => exact .pure _ _ h.nl
  | nsl id base z h => exact .nsl id base z h
  | sl id off len cap b base z n e h1 h2 h3 h4 h5 => exact .sl id off len cap b base z n e h1 h2 h3 h4 h5
  | esl id off a i h => exact .esl id off a i h
  | ptr id i j b base z n e h1 h2 => exact .ptr id i j b base z n e h1 h2
  | it id b base z h1 => exact .it id b base z h1
  | agg vs l h1 h2 h3 ih =>
    simp only [V.nl]
    refine .agg vs _ (by rw [nlL_length, h1]) h2 (fun i v c hv hc => ?_)
    obtain ⟨x, hx, rfl⟩ := nlL_get l i c hc
    exact ih i v x hv hx
  | fn f vs l h1 h2 ih =>
    simp only [V.nl]
    refine .fn f vs _ (by rw [nlL_length, h1]) (fun i v c hv hc => ?_)
    obtain ⟨x, hx, rfl⟩ := nlL_get l i c hc
    exact ih i v x hv hx
  | tup vs l h1 h2 ih =>
    simp only [V.nl]
    refine .tup vs _ (by rw [nlL_length, h1]) (fun i v c hv hc => ?_)
    obtain ⟨x, hx, rfl⟩ := nlL_get l i c hc
    exact ih i v x hv hx
theorem nlL_append : ∀ a b : List V, nlL (a ++ b) = nlL a ++ nlL b
  | [], b => by simp [nlL]
  | x :: a, b => by simp [nlL, nlL_append a b]
/-- Nil slices among an object's values are empty slices. -/
theorem up_nl {C : Ctx} {K : ES → Prop} (p : Nat) {z n : Nat} {els : List V} {u : List (Nat × V)} {h : List (Option Ob)} (ho : h[p]? = some (some (.row z els))) (hk : UpE C K ⟨n, u, h.set p (some (.row z (nlL els)))⟩) : UpE C K ⟨n, u, h⟩ := by
  refine ⟨up_of_rel (fun a w hr => ?_) hk.out⟩
  obtain ⟨I, bl, hp⟩ := hr.parts
  have hpl : p < h.length := (List.getElem?_eq_some_iff.1 ho).1
  refine RP.rel (I := I) (bl := bl) ⟨hp.defers, hp.env, ⟨fun id o hoo => ?_, fun id i hi => ?_, hp.heap.apart, hp.heap.own, hp.heap.imm, hp.heap.kept⟩⟩
  · have hoo : (h.set p (some (.row z (nlL els))))[id]? = some (some o) := hoo
    by_cases e : id = p
    · subst e
      rw [List.getElem?_set_self hpl] at hoo
      simp only [Option.some.injEq] at hoo
      subst hoo
      obtain ⟨bi, h1, h2, h3, h4⟩ := hp.heap.obj id _ ho
      refine ⟨bi, h1, h2, fun i x hx => ?_, ?_⟩
      · obtain ⟨y, hy, rfl⟩ := nlL_get els i x hx
        rw [nl_cells, nlL_length]; exact h3 i y hy
      · cases hbl : bi.blk with
        | none => simp only [hbl] at h4 ⊢; subst h4; rfl
        | some b =>
          simp only [hbl] at h4 ⊢
          obtain ⟨cur, e, hg, hsz, hc⟩ := h4
          refine ⟨cur, e, hg, by rw [nlL_length]; exact hsz, fun i x j c hx hxc => ?_⟩
          obtain ⟨y, hy, rfl⟩ := nlL_get els i x hx
          rw [nl_cells] at hxc
          obtain ⟨c', hc', rfl⟩ := nlL_get _ j c hxc
          obtain ⟨u, hu, h1', hr'⟩ := hc i y j c' hy hc'
          exact ⟨u, hu, h1', hr'.nl⟩
    · rw [List.getElem?_set_ne (Ne.symm e)] at hoo
      exact hp.heap.obj id o hoo
  · show ∃ o, (h.set p (some (.row z (nlL els))))[id]? = some (some o)
    by_cases e : id = p
    · subst e; exact ⟨_, List.getElem?_set_self hpl⟩
    · rw [List.getElem?_set_ne (Ne.symm e)]
      exact hp.heap.live id i hi
theorem killL_app (id : Nat) (a b : List V) : killL id (a ++ b) = killL id a ++ killL id b := by
  induction a with
  | nil => simp [killL]
  | cons x a ih => simp only [List.cons_append, killL, ih]
theorem frzL_app (id : Nat) (els a b : List V) : frzL id els (a ++ b) = frzL id els a ++ frzL id els b := by
  induction a with
  | nil => simp [frzL]
  | cons x a ih => simp only [List.cons_append, frzL, ih]
theorem nr_i64 : ∀ L : List Int, nrL (L.map (V.int .i64))
  | [] => trivial
  | x :: L => ⟨trivial, nr_i64 L⟩
theorem nr_bools : ∀ L : List Bool, nrL (L.map V.bool)
  | [] => trivial
  | x :: L => ⟨trivial, nr_bools L⟩
theorem nr_strs : ∀ L : List (List UInt8), nrL (L.map V.str)
  | [] => trivial
  | x :: L => ⟨trivial, nr_strs L⟩
theorem mv_nrV (a b : Nat) (x : V) : x.nr → x.mv a b = x := by
  refine V.rec (motive_1 := fun x => x.nr → x.mv a b = x) (motive_2 := fun l => nrL l → mvL a b l = l) ?_ ?_ ?_ ?_ ?_ ?_ ?_ ?_ ?_ ?_ ?_ ?_ ?_ ?_ ?_ ?_ ?_ ?_ ?_ x
  all_goals first
    | (intro h; simp [V.mv, mvL]; done)
    | (intro a h; simp [V.mv]; done)
    | (intro a b h; simp [V.mv]; done)
    | (intro a b c h; simp [V.mv]; done)
    | (intro a ih h; simp [V.mv]; done)
    | (intro l ih h; simp only [V.mv]; rw [ih h])
    | (intro f l ih h; simp only [V.mv]; rw [ih h])
    | (intro a b c h; exact (h : False).elim)
    | (intro a h; exact (h : False).elim)
    | (intro x l h1 h2 h; simp only [mvL]; rw [h1 h.1, h2 h.2])
theorem mv_nrL (a b : Nat) : ∀ {l : List V}, nrL l → mvL a b l = l
  | [], _ => by simp [mvL]
  | x :: l, h => by simp only [mvL]; rw [mv_nrV a b x h.1, mv_nrL a b h.2]


end Go.Proofs.YtkkcmobnhiiacaaGreatDoor

/-! The document's SameAttrs, SameNodes at equal arguments, walked. No conditions. -/
namespace Go.Proofs.YtkkcmobnhiiacaaGreatDoor
open Go.RowKit

theorem same_attrs (l : List Atr) : Fn1 Tryz.prog 11 [.lst (l.map attA), .lst (l.map attA)] (fun r => r = .bool true) := by
  have hlm : (l.map attA).length = l.length := by simp
  refine fn1E (T := Tryz.tt) Tryz.func11 rfl tt_all follows_all ?_ ?_ fun C hC hE => ?_
  · kernel_rfl
  · exact Nat.le_of_ble_eq_true (by kernel_rfl)
  conv => whnf
  repeat' (first | (refine brd_t (by first | assumption | omega) ?_; conv => whnf) | (refine brd_f (by first | assumption | omega) ?_; conv => whnf) | (refine ask (by first | assumption | omega) ?_; conv => whnf) | (refine fit64 (by omega) ?_; conv => whnf) | (refine fit (by simp only [kmin, kmax]; omega) ?_; conv => whnf) | (refine br_t (by assumption) ?_; conv => whnf) | (refine br_f (by assumption) ?_; conv => whnf) | (refine get_of (by assumption) ?_; conv => whnf) | (refine get_map (by assumption) ?_; conv => whnf) | (refine draw_lex hE ?_ ?_; decide +kernel; conv => whnf) | (refine draw_any hE [⟨0, [(0, none), (1, none), (2, none), (3, none), (4, none), (5, none), (6, none), (7, none), (8, none)], none, [], [[]]⟩] ?_ ?_; decide +kernel; conv => whnf) | (refine brd (fun h => ?_) (fun h => ?_) <;> conv => whnf) | (refine br (fun h => ?_) (fun h => ?_) <;> conv => whnf) | (refine ret_now hE ?_; conv => whnf) | (intro hlen; conv => whnf) | (refine seg_here ?_; conv => whnf) | (refine both ?_ ?_ <;> conv => whnf))
  refine loopE (fun k : Nat => ⟨26, [(0, .lst (l.map attA)), (1, .lst (l.map attA)), (12, .int .i64 (l.map attA).length), (13, .int .i64 k)], []⟩) (fun k => k ≤ l.length) (fun k => l.length - k) 0 hE ?_ ?_ (Nat.zero_le _) ?_
  · kernel_rfl
  · exact at_keep [0, 1, 12, 13] rfl
  intro k hk
  by_cases hlt : k < l.length
  · obtain ⟨x, hx⟩ : ∃ x, l[k]? = some x := ⟨_, List.getElem?_eq_getElem hlt⟩
    conv => whnf
    repeat' (first | (refine brd_t (by first | assumption | omega) ?_; conv => whnf) | (refine brd_f (by first | assumption | omega) ?_; conv => whnf) | (refine ask (by first | assumption | omega) ?_; conv => whnf) | (refine fit64 (by omega) ?_; conv => whnf) | (refine fit (by simp only [kmin, kmax]; omega) ?_; conv => whnf) | (refine br_t (by assumption) ?_; conv => whnf) | (refine br_f (by assumption) ?_; conv => whnf) | (refine get_of (by assumption) ?_; conv => whnf) | (refine get_map (by assumption) ?_; conv => whnf) | (refine draw_lex hE ?_ ?_; decide +kernel; conv => whnf) | (refine draw_any hE [⟨0, [(0, none), (1, none), (2, none), (3, none), (4, none), (5, none), (6, none), (7, none), (8, none)], none, [], [[]]⟩] ?_ ?_; decide +kernel; conv => whnf) | (refine brd (fun h => ?_) (fun h => ?_) <;> conv => whnf) | (refine br (fun h => ?_) (fun h => ?_) <;> conv => whnf) | (refine ret_now hE ?_; conv => whnf) | (intro hlen; conv => whnf) | (refine seg_here ?_; conv => whnf) | (refine both ?_ ?_ <;> conv => whnf))
    all_goals first | exact next_keep [0, 1, 12, 13] (k + 1) hlt (by omega) rfl | (exfalso; simp_all; done)
  · conv => whnf
    repeat' (first | (refine brd_t (by first | assumption | omega) ?_; conv => whnf) | (refine brd_f (by first | assumption | omega) ?_; conv => whnf) | (refine ask (by first | assumption | omega) ?_; conv => whnf) | (refine fit64 (by omega) ?_; conv => whnf) | (refine fit (by simp only [kmin, kmax]; omega) ?_; conv => whnf) | (refine br_t (by assumption) ?_; conv => whnf) | (refine br_f (by assumption) ?_; conv => whnf) | (refine get_of (by assumption) ?_; conv => whnf) | (refine get_map (by assumption) ?_; conv => whnf) | (refine draw_lex hE ?_ ?_; decide +kernel; conv => whnf) | (refine draw_any hE [⟨0, [(0, none), (1, none), (2, none), (3, none), (4, none), (5, none), (6, none), (7, none), (8, none)], none, [], [[]]⟩] ?_ ?_; decide +kernel; conv => whnf) | (refine brd (fun h => ?_) (fun h => ?_) <;> conv => whnf) | (refine br (fun h => ?_) (fun h => ?_) <;> conv => whnf) | (refine ret_now hE ?_; conv => whnf) | (intro hlen; conv => whnf) | (refine seg_here ?_; conv => whnf) | (refine both ?_ ?_ <;> conv => whnf))
    exact ⟨rfl, rfl⟩
set_option maxHeartbeats 8000000 in
theorem same_nodes : ∀ (N : Nat) (l : List Nd), szL l ≤ N → Fn1 Tryz.prog 6 [.lst (nodesL l), .lst (nodesL l)] (fun r => r = .bool true) := by
  intro N
  induction N using Nat.strongRecOn with
  | _ N ih =>
    intro l hps
    have hlm := nodesL_length l
    refine fn1E (T := Tryz.tt) Tryz.func6 rfl tt_all follows_all ?_ ?_ fun C hC hE => ?_
    · kernel_rfl
    · exact Nat.le_of_ble_eq_true (by kernel_rfl)
    conv => whnf
    repeat' (first | (refine brd_t (by first | assumption | omega) ?_; conv => whnf) | (refine brd_f (by first | assumption | omega) ?_; conv => whnf) | (refine ask (by first | assumption | omega) ?_; conv => whnf) | (refine fit64 (by omega) ?_; conv => whnf) | (refine fit (by simp only [kmin, kmax]; omega) ?_; conv => whnf) | (refine br_t (by assumption) ?_; conv => whnf) | (refine br_f (by assumption) ?_; conv => whnf) | (refine get_of (by assumption) ?_; conv => whnf) | (refine get_map (by assumption) ?_; conv => whnf) | (refine draw_lex hE ?_ ?_; decide +kernel; conv => whnf) | (refine draw_any hE [⟨0, [(0, none), (1, none), (2, none), (3, none), (4, none), (5, none), (6, none), (7, none), (8, none), (9, none), (10, none), (11, none), (12, none), (13, none), (14, none), (15, none), (16, none), (17, none), (18, none), (19, none), (20, none), (21, none), (22, none), (23, none), (24, none), (25, none), (26, none), (27, none), (28, none), (29, none), (30, none), (31, none), (32, none), (33, none), (34, none), (35, none), (36, none), (37, none), (38, none), (39, none), (40, none), (41, none), (42, none), (43, none), (44, none), (45, none), (46, none), (47, none), (48, none), (49, none), (50, none), (51, none)], none, [], [[]]⟩] ?_ ?_; decide +kernel; conv => whnf) | (refine brd (fun h => ?_) (fun h => ?_) <;> conv => whnf) | (refine br (fun h => ?_) (fun h => ?_) <;> conv => whnf) | (refine ret_now hE ?_; conv => whnf) | (intro hlen; conv => whnf) | (refine seg_here ?_; conv => whnf) | (refine both ?_ ?_ <;> conv => whnf))
    refine loopE (fun k : Nat => ⟨69, [(0, .lst (nodesL l)), (1, .lst (nodesL l)), (12, .int .i64 (nodesL l).length), (13, .int .i64 k)], []⟩) (fun k => k ≤ l.length) (fun k => l.length - k) 0 hE ?_ ?_ (Nat.zero_le _) ?_
    · kernel_rfl
    · exact at_keep [0, 1, 12, 13] rfl
    intro k hk
    by_cases hlt : k < l.length
    · obtain ⟨n, a, t, qs, hx, hx'⟩ := node_at hlt
      have hp2 := szL_mem (List.mem_of_getElem? hx)
      have hp1 : szL qs < szN (.mk n a t qs) := by simp only [szN]; omega
      have ih' := ih (szL qs) (by omega) qs (Nat.le_refl _)
      conv => whnf
      repeat' (first | (refine brd_t (by first | assumption | omega) ?_; conv => whnf) | (refine brd_f (by first | assumption | omega) ?_; conv => whnf) | (refine ask (by first | assumption | omega) ?_; conv => whnf) | (refine fit64 (by omega) ?_; conv => whnf) | (refine fit (by simp only [kmin, kmax]; omega) ?_; conv => whnf) | (refine br_t (by assumption) ?_; conv => whnf) | (refine br_f (by assumption) ?_; conv => whnf) | (refine get_of (by assumption) ?_; conv => whnf) | (refine get_map (by assumption) ?_; conv => whnf) | (refine call_eq (same_attrs _) hC hasBody_11 ?_ ?_ ?_; kernel_rfl; kernel_rfl; conv => whnf) | (refine callq_eq (same_attrs _) hC hasBody_11 ?_ ?_ ?_; kernel_rfl; kernel_rfl; conv => whnf) | (refine call_eq (ih') hC hasBody_6 ?_ ?_ ?_; kernel_rfl; kernel_rfl; conv => whnf) | (refine callq_eq (ih') hC hasBody_6 ?_ ?_ ?_; kernel_rfl; kernel_rfl; conv => whnf) | (refine draw_lex hE ?_ ?_; decide +kernel; conv => whnf) | (refine draw_any hE [⟨0, [(0, none), (1, none), (2, none), (3, none), (4, none), (5, none), (6, none), (7, none), (8, none), (9, none), (10, none), (11, none), (12, none), (13, none), (14, none), (15, none), (16, none), (17, none), (18, none), (19, none), (20, none), (21, none), (22, none), (23, none), (24, none), (25, none), (26, none), (27, none), (28, none), (29, none), (30, none), (31, none), (32, none), (33, none), (34, none), (35, none), (36, none), (37, none), (38, none), (39, none), (40, none), (41, none), (42, none), (43, none), (44, none), (45, none), (46, none), (47, none), (48, none), (49, none), (50, none), (51, none)], none, [], [[]]⟩] ?_ ?_; decide +kernel; conv => whnf) | (refine brd (fun h => ?_) (fun h => ?_) <;> conv => whnf) | (refine br (fun h => ?_) (fun h => ?_) <;> conv => whnf) | (refine ret_now hE ?_; conv => whnf) | (intro hlen; conv => whnf) | (refine seg_here ?_; conv => whnf) | (refine both ?_ ?_ <;> conv => whnf))
      all_goals first | exact next_keep [0, 1, 12, 13] (k + 1) hlt (by omega) rfl | (exfalso; simp_all; done) | trace_state
    · conv => whnf
      repeat' (first | (refine brd_t (by first | assumption | omega) ?_; conv => whnf) | (refine brd_f (by first | assumption | omega) ?_; conv => whnf) | (refine ask (by first | assumption | omega) ?_; conv => whnf) | (refine fit64 (by omega) ?_; conv => whnf) | (refine fit (by simp only [kmin, kmax]; omega) ?_; conv => whnf) | (refine br_t (by assumption) ?_; conv => whnf) | (refine br_f (by assumption) ?_; conv => whnf) | (refine get_of (by assumption) ?_; conv => whnf) | (refine get_map (by assumption) ?_; conv => whnf) | (refine draw_lex hE ?_ ?_; decide +kernel; conv => whnf) | (refine draw_any hE [⟨0, [(0, none), (1, none), (2, none), (3, none), (4, none), (5, none), (6, none), (7, none), (8, none), (9, none), (10, none), (11, none), (12, none), (13, none), (14, none), (15, none), (16, none), (17, none), (18, none), (19, none), (20, none), (21, none), (22, none), (23, none), (24, none), (25, none), (26, none), (27, none), (28, none), (29, none), (30, none), (31, none), (32, none), (33, none), (34, none), (35, none), (36, none), (37, none), (38, none), (39, none), (40, none), (41, none), (42, none), (43, none), (44, none), (45, none), (46, none), (47, none), (48, none), (49, none), (50, none), (51, none)], none, [], [[]]⟩] ?_ ?_; decide +kernel; conv => whnf) | (refine brd (fun h => ?_) (fun h => ?_) <;> conv => whnf) | (refine br (fun h => ?_) (fun h => ?_) <;> conv => whnf) | (refine ret_now hE ?_; conv => whnf) | (intro hlen; conv => whnf) | (refine seg_here ?_; conv => whnf) | (refine both ?_ ?_ <;> conv => whnf))
      exact ⟨rfl, rfl⟩
def zeroN : V := .agg [.str [], .nils, .str [], .nils]
theorem same_attrs_nil : Fn1 Tryz.prog 11 [.nils, .nils] (fun r => r = .bool true) := by
  refine fn1E (T := Tryz.tt) Tryz.func11 rfl tt_all follows_all ?_ ?_ fun C hC hE => ?_
  · kernel_rfl
  · exact Nat.le_of_ble_eq_true (by kernel_rfl)
  conv => whnf
  repeat' (first | (refine brd_t (by first | assumption | omega) ?_; conv => whnf) | (refine brd_f (by first | assumption | omega) ?_; conv => whnf) | (refine ask (by first | assumption | omega) ?_; conv => whnf) | (refine fit64 (by omega) ?_; conv => whnf) | (refine fit (by simp only [kmin, kmax]; omega) ?_; conv => whnf) | (refine br_t (by assumption) ?_; conv => whnf) | (refine br_f (by assumption) ?_; conv => whnf) | (refine get_of (by assumption) ?_; conv => whnf) | (refine get_map (by assumption) ?_; conv => whnf) | (refine draw_lex hE ?_ ?_; decide +kernel; conv => whnf) | (refine draw_any hE [⟨0, [(0, none), (1, none), (2, none), (3, none), (4, none), (5, none), (6, none), (7, none), (8, none)], none, [], [[]]⟩] ?_ ?_; decide +kernel; conv => whnf) | (refine brd (fun h => ?_) (fun h => ?_) <;> conv => whnf) | (refine br (fun h => ?_) (fun h => ?_) <;> conv => whnf) | (refine ret_now hE ?_; conv => whnf) | (intro hlen; conv => whnf) | (refine seg_here ?_; conv => whnf) | (refine both ?_ ?_ <;> conv => whnf))
  refine loopE (fun k : Nat => ⟨26, [(0, .nils), (1, .nils), (12, .int .i64 0), (13, .int .i64 0)], []⟩) (fun k => True) (fun k => k) 0 hE ?_ ?_ trivial ?_
  · kernel_rfl
  · exact at_keep [0, 1, 12, 13] rfl
  intro k hk
  conv => whnf
  repeat' (first | (refine brd_t (by first | assumption | omega) ?_; conv => whnf) | (refine brd_f (by first | assumption | omega) ?_; conv => whnf) | (refine ask (by first | assumption | omega) ?_; conv => whnf) | (refine fit64 (by omega) ?_; conv => whnf) | (refine fit (by simp only [kmin, kmax]; omega) ?_; conv => whnf) | (refine br_t (by assumption) ?_; conv => whnf) | (refine br_f (by assumption) ?_; conv => whnf) | (refine get_of (by assumption) ?_; conv => whnf) | (refine get_map (by assumption) ?_; conv => whnf) | (refine draw_lex hE ?_ ?_; decide +kernel; conv => whnf) | (refine draw_any hE [⟨0, [(0, none), (1, none), (2, none), (3, none), (4, none), (5, none), (6, none), (7, none), (8, none)], none, [], [[]]⟩] ?_ ?_; decide +kernel; conv => whnf) | (refine brd (fun h => ?_) (fun h => ?_) <;> conv => whnf) | (refine br (fun h => ?_) (fun h => ?_) <;> conv => whnf) | (refine ret_now hE ?_; conv => whnf) | (intro hlen; conv => whnf) | (refine seg_here ?_; conv => whnf) | (refine both ?_ ?_ <;> conv => whnf))
  exact ⟨rfl, rfl⟩
theorem same_nodes_nil : Fn1 Tryz.prog 6 [.nils, .nils] (fun r => r = .bool true) := by
  refine fn1E (T := Tryz.tt) Tryz.func6 rfl tt_all follows_all ?_ ?_ fun C hC hE => ?_
  · kernel_rfl
  · exact Nat.le_of_ble_eq_true (by kernel_rfl)
  conv => whnf
  repeat' (first | (refine brd_t (by first | assumption | omega) ?_; conv => whnf) | (refine brd_f (by first | assumption | omega) ?_; conv => whnf) | (refine ask (by first | assumption | omega) ?_; conv => whnf) | (refine fit64 (by omega) ?_; conv => whnf) | (refine fit (by simp only [kmin, kmax]; omega) ?_; conv => whnf) | (refine br_t (by assumption) ?_; conv => whnf) | (refine br_f (by assumption) ?_; conv => whnf) | (refine get_of (by assumption) ?_; conv => whnf) | (refine get_map (by assumption) ?_; conv => whnf) | (refine draw_lex hE ?_ ?_; decide +kernel; conv => whnf) | (refine draw_any hE [⟨0, [(0, none), (1, none), (2, none), (3, none), (4, none), (5, none), (6, none), (7, none), (8, none), (9, none), (10, none), (11, none), (12, none), (13, none), (14, none), (15, none), (16, none), (17, none), (18, none), (19, none), (20, none), (21, none), (22, none), (23, none), (24, none), (25, none), (26, none), (27, none), (28, none), (29, none), (30, none), (31, none), (32, none), (33, none), (34, none), (35, none), (36, none), (37, none), (38, none), (39, none), (40, none), (41, none), (42, none), (43, none), (44, none), (45, none), (46, none), (47, none), (48, none), (49, none), (50, none), (51, none)], none, [], [[]]⟩] ?_ ?_; decide +kernel; conv => whnf) | (refine brd (fun h => ?_) (fun h => ?_) <;> conv => whnf) | (refine br (fun h => ?_) (fun h => ?_) <;> conv => whnf) | (refine ret_now hE ?_; conv => whnf) | (intro hlen; conv => whnf) | (refine seg_here ?_; conv => whnf) | (refine both ?_ ?_ <;> conv => whnf))
  refine loopE (fun k : Nat => ⟨69, [(0, .nils), (1, .nils), (12, .int .i64 0), (13, .int .i64 0)], []⟩) (fun k => True) (fun k => k) 0 hE ?_ ?_ trivial ?_
  · kernel_rfl
  · exact at_keep [0, 1, 12, 13] rfl
  intro k hk
  conv => whnf
  repeat' (first | (refine brd_t (by first | assumption | omega) ?_; conv => whnf) | (refine brd_f (by first | assumption | omega) ?_; conv => whnf) | (refine ask (by first | assumption | omega) ?_; conv => whnf) | (refine fit64 (by omega) ?_; conv => whnf) | (refine fit (by simp only [kmin, kmax]; omega) ?_; conv => whnf) | (refine br_t (by assumption) ?_; conv => whnf) | (refine br_f (by assumption) ?_; conv => whnf) | (refine get_of (by assumption) ?_; conv => whnf) | (refine get_map (by assumption) ?_; conv => whnf) | (refine draw_lex hE ?_ ?_; decide +kernel; conv => whnf) | (refine draw_any hE [⟨0, [(0, none), (1, none), (2, none), (3, none), (4, none), (5, none), (6, none), (7, none), (8, none), (9, none), (10, none), (11, none), (12, none), (13, none), (14, none), (15, none), (16, none), (17, none), (18, none), (19, none), (20, none), (21, none), (22, none), (23, none), (24, none), (25, none), (26, none), (27, none), (28, none), (29, none), (30, none), (31, none), (32, none), (33, none), (34, none), (35, none), (36, none), (37, none), (38, none), (39, none), (40, none), (41, none), (42, none), (43, none), (44, none), (45, none), (46, none), (47, none), (48, none), (49, none), (50, none), (51, none)], none, [], [[]]⟩] ?_ ?_; decide +kernel; conv => whnf) | (refine brd (fun h => ?_) (fun h => ?_) <;> conv => whnf) | (refine br (fun h => ?_) (fun h => ?_) <;> conv => whnf) | (refine ret_now hE ?_; conv => whnf) | (intro hlen; conv => whnf) | (refine seg_here ?_; conv => whnf) | (refine both ?_ ?_ <;> conv => whnf))
  exact ⟨rfl, rfl⟩
theorem same_nodes_zero : Fn1 Tryz.prog 6 [.lst [zeroN], .lst [zeroN]] (fun r => r = .bool true) := by
  have h0 : ([zeroN] : List V)[0]? = some (.agg [.str [], .nils, .str [], .nils]) := rfl
  refine fn1E (T := Tryz.tt) Tryz.func6 rfl tt_all follows_all ?_ ?_ fun C hC hE => ?_
  · kernel_rfl
  · exact Nat.le_of_ble_eq_true (by kernel_rfl)
  conv => whnf
  repeat' (first | (refine brd_t (by first | assumption | omega) ?_; conv => whnf) | (refine brd_f (by first | assumption | omega) ?_; conv => whnf) | (refine ask (by first | assumption | omega) ?_; conv => whnf) | (refine fit64 (by omega) ?_; conv => whnf) | (refine fit (by simp only [kmin, kmax]; omega) ?_; conv => whnf) | (refine br_t (by assumption) ?_; conv => whnf) | (refine br_f (by assumption) ?_; conv => whnf) | (refine get_of (by assumption) ?_; conv => whnf) | (refine get_map (by assumption) ?_; conv => whnf) | (refine draw_lex hE ?_ ?_; decide +kernel; conv => whnf) | (refine draw_any hE [⟨0, [(0, none), (1, none), (2, none), (3, none), (4, none), (5, none), (6, none), (7, none), (8, none), (9, none), (10, none), (11, none), (12, none), (13, none), (14, none), (15, none), (16, none), (17, none), (18, none), (19, none), (20, none), (21, none), (22, none), (23, none), (24, none), (25, none), (26, none), (27, none), (28, none), (29, none), (30, none), (31, none), (32, none), (33, none), (34, none), (35, none), (36, none), (37, none), (38, none), (39, none), (40, none), (41, none), (42, none), (43, none), (44, none), (45, none), (46, none), (47, none), (48, none), (49, none), (50, none), (51, none)], none, [], [[]]⟩] ?_ ?_; decide +kernel; conv => whnf) | (refine brd (fun h => ?_) (fun h => ?_) <;> conv => whnf) | (refine br (fun h => ?_) (fun h => ?_) <;> conv => whnf) | (refine ret_now hE ?_; conv => whnf) | (intro hlen; conv => whnf) | (refine seg_here ?_; conv => whnf) | (refine both ?_ ?_ <;> conv => whnf))
  refine loopE (fun k : Nat => ⟨69, [(0, .lst [zeroN]), (1, .lst [zeroN]), (12, .int .i64 1), (13, .int .i64 k)], []⟩) (fun k => k ≤ 1) (fun k => 1 - k) 0 hE ?_ ?_ (by omega) ?_
  · kernel_rfl
  · exact at_keep [0, 1, 12, 13] rfl
  intro k hk
  by_cases hlt : k < 1
  · obtain rfl : k = 0 := by omega
    conv => whnf
    repeat' (first | (refine brd_t (by first | assumption | omega) ?_; conv => whnf) | (refine brd_f (by first | assumption | omega) ?_; conv => whnf) | (refine ask (by first | assumption | omega) ?_; conv => whnf) | (refine fit64 (by omega) ?_; conv => whnf) | (refine fit (by simp only [kmin, kmax]; omega) ?_; conv => whnf) | (refine br_t (by assumption) ?_; conv => whnf) | (refine br_f (by assumption) ?_; conv => whnf) | (refine get_of (by assumption) ?_; conv => whnf) | (refine get_map (by assumption) ?_; conv => whnf) | (refine call_eq (same_attrs_nil) hC hasBody_11 ?_ ?_ ?_; kernel_rfl; kernel_rfl; conv => whnf) | (refine callq_eq (same_attrs_nil) hC hasBody_11 ?_ ?_ ?_; kernel_rfl; kernel_rfl; conv => whnf) | (refine call_eq (same_nodes_nil) hC hasBody_6 ?_ ?_ ?_; kernel_rfl; kernel_rfl; conv => whnf) | (refine callq_eq (same_nodes_nil) hC hasBody_6 ?_ ?_ ?_; kernel_rfl; kernel_rfl; conv => whnf) | (refine draw_lex hE ?_ ?_; decide +kernel; conv => whnf) | (refine draw_any hE [⟨0, [(0, none), (1, none), (2, none), (3, none), (4, none), (5, none), (6, none), (7, none), (8, none), (9, none), (10, none), (11, none), (12, none), (13, none), (14, none), (15, none), (16, none), (17, none), (18, none), (19, none), (20, none), (21, none), (22, none), (23, none), (24, none), (25, none), (26, none), (27, none), (28, none), (29, none), (30, none), (31, none), (32, none), (33, none), (34, none), (35, none), (36, none), (37, none), (38, none), (39, none), (40, none), (41, none), (42, none), (43, none), (44, none), (45, none), (46, none), (47, none), (48, none), (49, none), (50, none), (51, none)], none, [], [[]]⟩] ?_ ?_; decide +kernel; conv => whnf) | (refine brd (fun h => ?_) (fun h => ?_) <;> conv => whnf) | (refine br (fun h => ?_) (fun h => ?_) <;> conv => whnf) | (refine ret_now hE ?_; conv => whnf) | (intro hlen; conv => whnf) | (refine seg_here ?_; conv => whnf) | (refine both ?_ ?_ <;> conv => whnf))
    all_goals first | exact next_keep [0, 1, 12, 13] 1 (by omega) (by omega) rfl | (exfalso; simp_all; done) | trace_state
  · obtain rfl : k = 1 := by omega
    conv => whnf
    repeat' (first | (refine brd_t (by first | assumption | omega) ?_; conv => whnf) | (refine brd_f (by first | assumption | omega) ?_; conv => whnf) | (refine ask (by first | assumption | omega) ?_; conv => whnf) | (refine fit64 (by omega) ?_; conv => whnf) | (refine fit (by simp only [kmin, kmax]; omega) ?_; conv => whnf) | (refine br_t (by assumption) ?_; conv => whnf) | (refine br_f (by assumption) ?_; conv => whnf) | (refine get_of (by assumption) ?_; conv => whnf) | (refine get_map (by assumption) ?_; conv => whnf) | (refine draw_lex hE ?_ ?_; decide +kernel; conv => whnf) | (refine draw_any hE [⟨0, [(0, none), (1, none), (2, none), (3, none), (4, none), (5, none), (6, none), (7, none), (8, none), (9, none), (10, none), (11, none), (12, none), (13, none), (14, none), (15, none), (16, none), (17, none), (18, none), (19, none), (20, none), (21, none), (22, none), (23, none), (24, none), (25, none), (26, none), (27, none), (28, none), (29, none), (30, none), (31, none), (32, none), (33, none), (34, none), (35, none), (36, none), (37, none), (38, none), (39, none), (40, none), (41, none), (42, none), (43, none), (44, none), (45, none), (46, none), (47, none), (48, none), (49, none), (50, none), (51, none)], none, [], [[]]⟩] ?_ ?_; decide +kernel; conv => whnf) | (refine brd (fun h => ?_) (fun h => ?_) <;> conv => whnf) | (refine br (fun h => ?_) (fun h => ?_) <;> conv => whnf) | (refine ret_now hE ?_; conv => whnf) | (intro hlen; conv => whnf) | (refine seg_here ?_; conv => whnf) | (refine both ?_ ?_ <;> conv => whnf))
    exact ⟨rfl, rfl⟩
end Go.Proofs.YtkkcmobnhiiacaaGreatDoor

/-! A nil slice in a field of an own variable is an empty own slice. Nil slices among an object's values. No conditions. -/
namespace Go.Proofs.YtkkcmobnhiiacaaGreatDoor
open Go.RowKit

theorem fresh_not (h : List (Option Ob)) : ∀ o, h[freshIn h]? ≠ some (some o) := by
  induction h with
  | nil => intro o ho; simp [freshIn] at ho
  | cons x r ih =>
    intro o ho
    cases x with
    | none => simp [freshIn] at ho
    | some y => exact ih o (by simpa [freshIn] using ho)
/-- A field of an own variable holds nil: it holds an own slice of no elements. -/
theorem up_ownF {C : Ctx} {K : ES → Prop} (p c z' : Nat) {z n : Nat} {l : List V} {u : List (Nat × V)} {h : List (Option Ob)} (ho : h[p]? = some (some (.row z [.agg l]))) (hl : l[c]? = some .nils)
    (hk : UpE C K ⟨n, u, (putOb h (.row z' [])).set p (some (.row z [.agg (l.set c (.sl (freshIn h) 0 0))]))⟩) : UpE C K ⟨n, u, h⟩ := by
  refine ⟨up_of_rel (fun a w hr => ?_) hk.out⟩
  obtain ⟨I, bl, hp0⟩ := hr.parts
  have hp := hp0.adopt z'
  have hne : p ≠ freshIn h := fun e => fresh_not h _ (e ▸ ho)
  have ho' : (putOb h (.row z' []))[p]? = some (some (.row z [.agg l])) := (putOb_other h _ p hne).trans ho
  have hpl : p < (putOb h (.row z' [])).length := (List.getElem?_eq_some_iff.1 ho').1
  refine RP.rel (I := I) (bl := upd bl (freshIn h) ⟨none, 0, z'⟩) ⟨hp.defers, hp.env, ⟨fun id o hoo => ?_, fun id i hi => ?_, hp.heap.apart, hp.heap.own, hp.heap.imm, hp.heap.kept⟩⟩
  · have hoo : ((putOb h (.row z' [])).set p (some (.row z [.agg (l.set c (.sl (freshIn h) 0 0))])))[id]? = some (some o) := hoo
    by_cases e : id = p
    · subst e
      rw [List.getElem?_set_self hpl] at hoo
      simp only [Option.some.injEq] at hoo
      subst hoo
      obtain ⟨bi, h1, h2, h3, h4⟩ := hp.heap.obj id _ ho'
      refine ⟨bi, h1, h2, fun i x hx => ?_, ?_⟩
      · cases i with
        | zero =>
          simp only [List.getElem?_cons_zero, Option.some.injEq] at hx
          subst hx
          have := h3 0 (.agg l) rfl
          simp only [V.cells] at this ⊢
          simpa using this
        | succ i => simp at hx
      · cases hbl : bi.blk with
        | none =>
          simp only [hbl] at h4
          cases h4
        | some b =>
          simp only [hbl] at h4 ⊢
          obtain ⟨cur, e, hg, hsz, hc⟩ := h4
          refine ⟨cur, e, hg, by simpa using hsz, fun i x j v hx hxc => ?_⟩
          cases i with
          | succ i => simp at hx
          | zero =>
            simp only [List.getElem?_cons_zero, Option.some.injEq] at hx
            subst hx
            simp only [V.cells] at hxc
            by_cases hj : j = c
            · subst hj
              have hlt : j < l.length := (List.getElem?_eq_some_iff.1 hl).1
              rw [List.getElem?_set_self hlt] at hxc
              simp only [Option.some.injEq] at hxc
              subst hxc
              obtain ⟨y, hy, h1', hr'⟩ := hc 0 (.agg l) j .nils rfl hl
              have := hr'.inv_nils
              subst this
              exact ⟨_, hy, h1', .nsl _ _ _ (upd_same _ _ _)⟩
            · rw [List.getElem?_set_ne (Ne.symm hj)] at hxc
              exact hc 0 (.agg l) j v rfl hxc
    · rw [List.getElem?_set_ne (Ne.symm e)] at hoo
      exact hp.heap.obj id o hoo
  · show ∃ o, ((putOb h (.row z' [])).set p (some (.row z [.agg (l.set c (.sl (freshIn h) 0 0))])))[id]? = some (some o)
    by_cases e : id = p
    · subst e; exact ⟨_, List.getElem?_set_self hpl⟩
    · rw [List.getElem?_set_ne (Ne.symm e)]
      exact hp.heap.live id i hi
end Go.Proofs.YtkkcmobnhiiacaaGreatDoor

/-! Links: which attributes stay; slices.DeleteFunc at []api.Attr, walked. No conditions. -/
namespace Go.Proofs.YtkkcmobnhiiacaaGreatDoor
open Go.RowKit

/-- Is this attribute taken away? -/
def badA (N S : List (List UInt8)) (a : Atr) : Bool := decide (a.name ∈ N) && !ofS a.value S
def capA (N S : List (List UInt8)) : List V := [.rp [.lst (N.map V.str)], .rp [.lst (S.map V.str)]]
theorem link_fn (N S : List (List UInt8)) (a : Atr) (ha : a.value.length ≤ 140737488351232) : Fn1 Tryz.prog 15 (attA a :: capA N S) (fun r => r = .bool (badA N S a)) := by
  obtain ⟨n, v⟩ := a
  have h1 := contains_str N n
  have h2 := url_of v S ha
  unfold badA attA capA
  simp only
  cases hm : decide (n ∈ N)
  · rw [hm] at h1
    refine fn1E (T := Tryz.tt) Tryz.func15 rfl tt_all follows_all ?_ ?_ fun C hC hE => ?_
    · kernel_rfl
    · exact Nat.le_of_ble_eq_true (by kernel_rfl)
    conv => whnf
    repeat' (first | (refine brd_t (by first | assumption | omega) ?_; conv => whnf) | (refine brd_f (by first | assumption | omega) ?_; conv => whnf) | (refine ask (by first | assumption | omega) ?_; conv => whnf) | (refine fit64 (by omega) ?_; conv => whnf) | (refine fit (by simp only [kmin, kmax]; omega) ?_; conv => whnf) | (refine br_t (by assumption) ?_; conv => whnf) | (refine br_f (by assumption) ?_; conv => whnf) | (refine get_of (by assumption) ?_; conv => whnf) | (refine get_map (by assumption) ?_; conv => whnf) | (refine call_eq (h1) hC hasBody_16 ?_ ?_ ?_; kernel_rfl; kernel_rfl; conv => whnf) | (refine callq_eq (h1) hC hasBody_16 ?_ ?_ ?_; kernel_rfl; kernel_rfl; conv => whnf) | (refine call_eq (h2) hC hasBody_17 ?_ ?_ ?_; kernel_rfl; kernel_rfl; conv => whnf) | (refine callq_eq (h2) hC hasBody_17 ?_ ?_ ?_; kernel_rfl; kernel_rfl; conv => whnf) | (refine draw_lex hE ?_ ?_; decide +kernel; conv => whnf) | (refine brd (fun h => ?_) (fun h => ?_) <;> conv => whnf) | (refine br (fun h => ?_) (fun h => ?_) <;> conv => whnf) | (refine ret_now hE ?_; conv => whnf) | (intro hlen; conv => whnf) | (refine seg_here ?_; conv => whnf) | (refine both ?_ ?_ <;> conv => whnf))
    all_goals exact ⟨rfl, rfl⟩
  · rw [hm] at h1
    cases ho : ofS v S
    all_goals
      rw [ho] at h2
      refine fn1E (T := Tryz.tt) Tryz.func15 rfl tt_all follows_all ?_ ?_ fun C hC hE => ?_
      · kernel_rfl
      · exact Nat.le_of_ble_eq_true (by kernel_rfl)
      conv => whnf
      repeat' (first | (refine brd_t (by first | assumption | omega) ?_; conv => whnf) | (refine brd_f (by first | assumption | omega) ?_; conv => whnf) | (refine ask (by first | assumption | omega) ?_; conv => whnf) | (refine fit64 (by omega) ?_; conv => whnf) | (refine fit (by simp only [kmin, kmax]; omega) ?_; conv => whnf) | (refine br_t (by assumption) ?_; conv => whnf) | (refine br_f (by assumption) ?_; conv => whnf) | (refine get_of (by assumption) ?_; conv => whnf) | (refine get_map (by assumption) ?_; conv => whnf) | (refine call_eq (h1) hC hasBody_16 ?_ ?_ ?_; kernel_rfl; kernel_rfl; conv => whnf) | (refine callq_eq (h1) hC hasBody_16 ?_ ?_ ?_; kernel_rfl; kernel_rfl; conv => whnf) | (refine call_eq (h2) hC hasBody_17 ?_ ?_ ?_; kernel_rfl; kernel_rfl; conv => whnf) | (refine callq_eq (h2) hC hasBody_17 ?_ ?_ ?_; kernel_rfl; kernel_rfl; conv => whnf) | (refine draw_lex hE ?_ ?_; decide +kernel; conv => whnf) | (refine brd (fun h => ?_) (fun h => ?_) <;> conv => whnf) | (refine br (fun h => ?_) (fun h => ?_) <;> conv => whnf) | (refine ret_now hE ?_; conv => whnf) | (intro hlen; conv => whnf) | (refine seg_here ?_; conv => whnf) | (refine both ?_ ?_ <;> conv => whnf))
      all_goals exact ⟨rfl, rfl⟩
theorem indexFunc_23 (l : List Atr) (h : FuncId) (caps : List V) (p : Atr → Bool) (hb : hasBody Tryz.prog h = true) (hc : nrB caps = true) (hp : ∀ a ∈ l, Fn1 Tryz.prog h (attA a :: caps) (fun r => r = .bool (p a))) :
    Fn1 Tryz.prog 23 [.lst (l.map attA), .fn h caps] (fun r => r = .int .i64 (idxOf p l)) := by
  refine fn1E (T := Tryz.tt) Tryz.func23 rfl tt_all follows_all ?_ ?_ fun C hC hE => ?_
  · kernel_rfl
  · exact Nat.le_of_ble_eq_true (by kernel_rfl)
  conv => whnf
  intro hl
  conv => whnf
  refine loopE (fun k : Nat => ⟨19, [(0, .lst (l.map attA)), (1, .fn h caps), (7, .int .i64 (l.map attA).length), (8, .int .i64 k)], []⟩) (fun k => k ≤ l.length ∧ ∀ j < k, ∀ x, l[j]? = some x → p x = false) (fun k => l.length - k) 0 hE ?_ ?_ ?_ ?_
  · kernel_rfl
  · exact at_keep [0, 1, 7, 8] rfl
  · exact ⟨Nat.zero_le _, fun j hj => by omega⟩
  intro k hkj
  obtain ⟨hk, hj⟩ := hkj
  have hlm : (l.map attA).length = l.length := by simp
  by_cases hlt : k < l.length
  · obtain ⟨x, hx⟩ : ∃ x, l[k]? = some x := ⟨_, List.getElem?_eq_getElem hlt⟩
    have hpx := hp x (List.mem_of_getElem? hx)
    conv => whnf
    repeat' (first | (refine brd_t (by first | assumption | omega) ?_; conv => whnf) | (refine brd_f (by first | assumption | omega) ?_; conv => whnf) | (refine ask (by first | assumption | omega) ?_; conv => whnf) | (refine fit64 (by omega) ?_; conv => whnf) | (refine fit (by simp only [kmin, kmax]; omega) ?_; conv => whnf) | (refine br_t (by assumption) ?_; conv => whnf) | (refine br_f (by assumption) ?_; conv => whnf) | (refine get_of (by assumption) ?_; conv => whnf) | (refine get_map (by assumption) ?_; conv => whnf) | (refine call_eq hpx hC hb ?_ ?_ ?_; kernel_rfl; exact nrB_tail (by kernel_rfl) hc; conv => whnf) | (refine draw_lex hE ?_ ?_; decide +kernel; conv => whnf) | (refine brd (fun h => ?_) (fun h => ?_) <;> conv => whnf) | (refine br (fun h => ?_) (fun h => ?_) <;> conv => whnf) | (refine ret_now hE ?_; conv => whnf) | (intro hlen; conv => whnf) | (refine seg_here ?_; conv => whnf) | (refine both ?_ ?_ <;> conv => whnf))
    · exact ⟨rfl, by rw [idxOf_hit hx (by assumption) hj]⟩
    · refine next_keep [0, 1, 7, 8] (k + 1) ⟨hlt, ?_⟩ (by omega) rfl
      intro j hjk y hy
      by_cases e : j = k
      · subst e; rw [hx] at hy; cases hy; assumption
      · exact hj j (by omega) y hy
  · conv => whnf
    repeat' (first | (refine brd_t (by first | assumption | omega) ?_; conv => whnf) | (refine brd_f (by first | assumption | omega) ?_; conv => whnf) | (refine ask (by first | assumption | omega) ?_; conv => whnf) | (refine fit64 (by omega) ?_; conv => whnf) | (refine fit (by simp only [kmin, kmax]; omega) ?_; conv => whnf) | (refine br_t (by assumption) ?_; conv => whnf) | (refine br_f (by assumption) ?_; conv => whnf) | (refine get_of (by assumption) ?_; conv => whnf) | (refine get_map (by assumption) ?_; conv => whnf) | (refine draw_lex hE ?_ ?_; decide +kernel; conv => whnf) | (refine brd (fun h => ?_) (fun h => ?_) <;> conv => whnf) | (refine br (fun h => ?_) (fun h => ?_) <;> conv => whnf) | (refine ret_now hE ?_; conv => whnf) | (intro hlen; conv => whnf) | (refine seg_here ?_; conv => whnf) | (refine both ?_ ?_ <;> conv => whnf))
    exact ⟨rfl, by rw [idxOf_miss (fun x hx => by obtain ⟨j, hj'⟩ := List.mem_iff_getElem?.1 hx; exact hj j (by have := (List.getElem?_eq_some_iff.1 hj').1; omega) x hj')]⟩

/-- What stays of the first j. -/
def fltF {α : Type} (p : α → Bool) (l : List α) (j : Nat) : List α := (l.take j).filter fun a => !p a
def curF {α : Type} (p : α → Bool) (l : List α) (j : Nat) : List α := fltF p l j ++ l.drop (fltF p l j).length
section
variable {α : Type} {p : α → Bool} {l : List α} {j : Nat} {x : α}
theorem take_step (hx : l[j]? = some x) : l.take (j + 1) = l.take j ++ [x] := by
  rw [List.take_add_one, hx]; rfl
theorem fltF_hit (hx : l[j]? = some x) (hp : p x = true) : fltF p l (j + 1) = fltF p l j := by
  unfold fltF; rw [take_step hx]; simp [hp]
theorem fltF_miss (hx : l[j]? = some x) (hp : p x = false) : fltF p l (j + 1) = fltF p l j ++ [x] := by
  unfold fltF; rw [take_step hx]; simp [hp]
theorem fltF_len (p : α → Bool) (l : List α) (j : Nat) : (fltF p l j).length ≤ j := by
  unfold fltF
  refine Nat.le_trans (List.length_filter_le _ _) ?_
  simp; omega
theorem fltF_len2 (p : α → Bool) (l : List α) (j : Nat) : (fltF p l j).length ≤ l.length := by
  unfold fltF
  refine Nat.le_trans (List.length_filter_le _ _) ?_
  simp; omega
theorem curF_len (p : α → Bool) (l : List α) (j : Nat) : (curF p l j).length = l.length := by
  have := fltF_len2 p l j
  simp [curF]; omega
theorem curF_get (hx : l[j]? = some x) : (curF p l j)[j]? = some x := by
  have := fltF_len p l j
  unfold curF
  rw [List.getElem?_append_right this, List.getElem?_drop, show (fltF p l j).length + (j - (fltF p l j).length) = j by omega]
  exact hx
theorem curF_hit (hx : l[j]? = some x) (hp : p x = true) : curF p l (j + 1) = curF p l j := by
  unfold curF; rw [fltF_hit hx hp]
theorem curF_miss (hx : l[j]? = some x) (hp : p x = false) : (curF p l j).set (fltF p l j).length x = curF p l (j + 1) := by
  have h1 := fltF_len p l j
  have h2 := (List.getElem?_eq_some_iff.1 hx).1
  unfold curF
  rw [fltF_miss hx hp, List.set_append_right _ _ (Nat.le_refl _), Nat.sub_self, List.append_assoc]
  congr 1
  rw [List.length_append, List.length_singleton]
  have h3 : (fltF p l j).length < l.length := by omega
  rw [List.drop_eq_getElem_cons h3]
  rfl
theorem fltF_first (hj : ∀ i < j, ∀ y, l[i]? = some y → p y = false) : fltF p l j = l.take j := by
  unfold fltF
  rw [List.filter_eq_self]
  intro a ha
  obtain ⟨i, hi⟩ := List.mem_iff_getElem?.1 ha
  rw [List.getElem?_take] at hi
  split at hi
  · rw [hj i ‹_› a hi]; rfl
  · cases hi
theorem fltF_all (h : l.length ≤ j) : fltF p l j = l.filter fun a => !p a := by
  unfold fltF; rw [List.take_of_length_le h]
theorem fltF_lt (hx : l[j]? = some x) (hp : p x = true) : ∀ m, j < m → m ≤ l.length → (fltF p l m).length < m := by
  intro m
  induction m with
  | zero => intro h; omega
  | succ m ih =>
    intro h1 h2
    by_cases e : j = m
    · subst e
      rw [fltF_hit hx hp]
      have := fltF_len p l j
      omega
    · have := ih (by omega) (by omega)
      obtain ⟨y, hy⟩ : ∃ y, l[m]? = some y := ⟨_, List.getElem?_eq_getElem (by omega)⟩
      cases hpy : p y
      · rw [fltF_miss hy hpy]; simp; omega
      · rw [fltF_hit hy hpy]; omega
theorem first_hit (p : α → Bool) (l : List α) : (∀ x ∈ l, p x = false) ∨ ∃ (k : Nat) (x : α), l[k]? = some x ∧ p x = true ∧ ∀ j < k, ∀ y, l[j]? = some y → p y = false := by
  induction l with
  | nil => exact .inl fun x hx => by cases hx
  | cons a l ih =>
    cases hp : p a
    · rcases ih with ih | ⟨k, x, h1, h2, h3⟩
      · exact .inl fun x hx => by
          rcases List.mem_cons.1 hx with rfl | hx
          · exact hp
          · exact ih x hx
      · refine .inr ⟨k + 1, x, h1, h2, fun j hj y hy => ?_⟩
        cases j with
        | zero => simp at hy; subst hy; exact hp
        | succ j => exact h3 j (by omega) y (by simpa using hy)
    · exact .inr ⟨0, a, rfl, hp, fun j hj => by omega⟩
end
theorem att_info : ∃ i, Tryz.prog.info? 41 = some i ∧ i.zero = some (.agg #[.string ⟨#[]⟩, .string ⟨#[]⟩]) := by
  have h : (Tryz.prog.info? 41).map (fun i => i.zero) = some (some (.agg #[.string ⟨#[]⟩, .string ⟨#[]⟩])) := by kernel_rfl
  obtain ⟨i, hi, e⟩ := Option.map_eq_some_iff.1 h
  exact ⟨i, hi, e⟩
set_option maxHeartbeats 8000000 in
theorem h_delete_func (N S : List (List UInt8)) (l : List Atr) (ha : ∀ a ∈ l, a.value.length ≤ 140737488351232) (hl : l.length ≤ 140737488355328) : HFn Tryz.prog 13 [.sl 0 0 l.length, .fn 15 (capA N S)] [.row 2 (l.map attA)] [] (fun r o => r = .sl 0 0 (l.filter fun a => !badA N S a).length ∧ o = [.row 2 ((l.filter fun a => !badA N S a).map attA)]) := by
  have hlm : (l.map attA).length = l.length := by simp
  have hfn := fun a h => link_fn N S a (ha a h)
  have hix := indexFunc_23 l 15 (capA N S) (badA N S) hasBody_15 rfl hfn
  have hfz : frzL 0 (l.map attA) [.sl 0 0 l.length, .fn 15 (capA N S)] = [.lst (l.map attA), .fn 15 (capA N S)] := by
    simp only [frzL, frz_sl]
    rw [if_pos trivial, if_pos (by rw [hlm]; omega), List.drop_zero, List.take_of_length_le (by rw [hlm]; exact Nat.le_refl _)]
    simp [V.frz, capA, frzL]
  obtain ⟨inf, hi1, hi2⟩ := att_info
  have hz1 : ∀ u ∈ (Value.agg #[.string ⟨#[]⟩, .string ⟨#[]⟩]).cells.toList, u.oneCell' = true := by decide
  unfold capA at hfz hix hfn ⊢
  rcases first_hit (badA N S) l with hno | ⟨k0, x0, hx0, hb0, hk0⟩
  · rw [idxOf_miss hno] at hix
    have hfl : (l.filter fun a => !badA N S a) = l := List.filter_eq_self.2 fun a h => by rw [hno a h]; rfl
    rw [hfl]
    refine hfnE (T := Tryz.tt) Tryz.func13 rfl tt_all follows_all ?_ ?_ fun C vs hC hE => ?_
    · kernel_rfl
    · exact Nat.le_of_ble_eq_true (by kernel_rfl)
    conv => whnf
    repeat' (first | (refine brd_t (by first | assumption | omega) ?_; conv => whnf) | (refine brd_f (by first | assumption | omega) ?_; conv => whnf) | (refine ask (by first | assumption | omega) ?_; conv => whnf) | (refine fit64 (by omega) ?_; conv => whnf) | (refine fit (by simp only [kmin, kmax]; omega) ?_; conv => whnf) | (refine br_t (by assumption) ?_; conv => whnf) | (refine br_f (by assumption) ?_; conv => whnf) | (refine get_of (by assumption) ?_; conv => whnf) | (refine get_map (by assumption) ?_; conv => whnf) | (refine call_lend 0 hix hC hasBody_23 rfl (nr_atts _) rfl hfz rfl rfl ?_; conv => whnf) | (refine draw_lex hE ?_ ?_; decide +kernel; conv => whnf) | (refine brd (fun h => ?_) (fun h => ?_) <;> conv => whnf) | (refine br (fun h => ?_) (fun h => ?_) <;> conv => whnf) | (refine ret_now hE ?_; conv => whnf) | (intro hlen; conv => whnf) | (refine seg_here ?_; conv => whnf) | (refine both ?_ ?_ <;> conv => whnf))
    refine hret_up (up_here (hret_now hE ?_))
    conv => whnf
    exact ⟨rfl, rfl, rfl, rfl⟩
  · rw [idxOf_hit hx0 hb0 hk0] at hix
    have hk0l := (List.getElem?_eq_some_iff.1 hx0).1
    have hf0 : fltF (badA N S) l (k0 + 1) = l.take k0 := by rw [fltF_hit hx0 hb0, fltF_first hk0]
    have hf0l : (fltF (badA N S) l (k0 + 1)).length = k0 := by rw [hf0]; simp; omega
    have hc0 : curF (badA N S) l (k0 + 1) = l := by unfold curF; rw [hf0l, hf0, List.take_append_drop]
    have hfin := fltF_all (p := badA N S) (l := l) (Nat.le_refl _)
    have hlt := fltF_lt hx0 hb0 l.length hk0l (Nat.le_refl _)
    rw [← hfin]
    generalize hpp : badA N S = p at *
    refine hfnE (T := Tryz.tt) Tryz.func13 rfl tt_all follows_all ?_ ?_ fun C vs hC hE => ?_
    · kernel_rfl
    · exact Nat.le_of_ble_eq_true (by kernel_rfl)
    conv => whnf
    repeat' (first | (refine brd_t (by first | assumption | omega) ?_; conv => whnf) | (refine brd_f (by first | assumption | omega) ?_; conv => whnf) | (refine ask (by first | assumption | omega) ?_; conv => whnf) | (refine fit64 (by omega) ?_; conv => whnf) | (refine fit (by simp only [kmin, kmax]; omega) ?_; conv => whnf) | (refine br_t (by assumption) ?_; conv => whnf) | (refine br_f (by assumption) ?_; conv => whnf) | (refine get_of (by assumption) ?_; conv => whnf) | (refine get_map (by assumption) ?_; conv => whnf) | (refine call_lend 0 hix hC hasBody_23 rfl (nr_atts _) rfl hfz rfl rfl ?_; conv => whnf) | (refine draw_lex hE ?_ ?_; decide +kernel; conv => whnf) | (refine brd (fun h => ?_) (fun h => ?_) <;> conv => whnf) | (refine br (fun h => ?_) (fun h => ?_) <;> conv => whnf) | (refine ret_now hE ?_; conv => whnf) | (intro hlen; conv => whnf) | (refine seg_here ?_; conv => whnf) | (refine both ?_ ?_ <;> conv => whnf))
    refine loopE (fun j : Nat => ⟨42, [(0, .sl 0 0 l.length), (1, .fn 15 [.rp [.lst (N.map V.str)], .rp [.lst (S.map V.str)]]), (5, .int .i64 ((fltF p l j).length : Nat)), (6, .int .i64 j)], [some (.row 2 ((curF p l j).map attA)), some (.hid vs [.sl 0 0 l.length, .fn 15 [.rp [.lst (N.map V.str)], .rp [.lst (S.map V.str)]]])]⟩) (fun j => k0 < j ∧ j ≤ l.length) (fun j => l.length - j) (k0 + 1) hE ?_ ?_ ⟨Nat.lt_succ_self _, hk0l⟩ ?_
    · kernel_rfl
    · refine at_keep [0, 1, 5, 6] ?_
      rw [hc0, hf0l]
      rfl
    rintro j ⟨hj0, hj⟩
    have hcl := curF_len p l j
    have hcm : ((curF p l j).map attA).length = l.length := by rw [List.length_map, hcl]
    have hfj := fltF_len p l j
    by_cases hjl : j < l.length
    · obtain ⟨x, hx⟩ : ∃ x, l[j]? = some x := ⟨_, List.getElem?_eq_getElem hjl⟩
      have hpx := hfn x (List.mem_of_getElem? hx)
      have hcx : ((curF p l j).map attA)[0 + (j : Int).toNat]? = some (.agg [.str x.name, .str x.value]) := by
        rw [show 0 + (j : Int).toNat = j by omega, List.getElem?_map, curF_get hx]
        rfl
      have ej : (j : Int) + 1 = ((j + 1 : Nat) : Int) := by omega
      cases hb : p x
      · have es := curF_miss hx hb
        have ef := fltF_miss hx hb
        rw [hb] at hpx
        unfold attA at hpx
        obtain ⟨y, hy⟩ : ∃ y, (curF p l j)[(fltF p l j).length]? = some y := ⟨_, List.getElem?_eq_getElem (by omega)⟩
        have hcy : ((curF p l j).map attA)[0 + (((fltF p l j).length : Nat) : Int).toNat]? = some (.agg [.str y.name, .str y.value]) := by
          rw [show 0 + (((fltF p l j).length : Nat) : Int).toNat = (fltF p l j).length by omega, List.getElem?_map, hy]
          rfl
        have es2 : ((curF p l j).map attA).set (0 + (((fltF p l j).length : Nat) : Int).toNat) (.agg [.str x.name, .str x.value]) = (curF p l (j + 1)).map attA := by
          rw [show 0 + (((fltF p l j).length : Nat) : Int).toNat = (fltF p l j).length by omega, ← es, List.map_set]
          rfl
        have el : ((fltF p l (j + 1)).length : Int) = (fltF p l j).length + 1 := by rw [ef]; simp
        conv => whnf
        repeat' (first | (refine brd_t (by first | assumption | omega) ?_; conv => whnf) | (refine brd_f (by first | assumption | omega) ?_; conv => whnf) | (refine ask (by first | assumption | omega) ?_; conv => whnf) | (refine fit64 (by omega) ?_; conv => whnf) | (refine fit (by simp only [kmin, kmax]; omega) ?_; conv => whnf) | (refine br_t (by assumption) ?_; conv => whnf) | (refine br_f (by assumption) ?_; conv => whnf) | (refine get_of (by assumption) ?_; conv => whnf) | (refine get_map (by assumption) ?_; conv => whnf) | (refine call_eq hpx hC hasBody_15 ?_ ?_ ?_; kernel_rfl; kernel_rfl; conv => whnf) | (refine draw_lex hE ?_ ?_; decide +kernel; conv => whnf) | (refine brd (fun h => ?_) (fun h => ?_) <;> conv => whnf) | (refine br (fun h => ?_) (fun h => ?_) <;> conv => whnf) | (refine ret_now hE ?_; conv => whnf) | (intro hlen; conv => whnf) | (refine seg_here ?_; conv => whnf) | (refine both ?_ ?_ <;> conv => whnf))
        refine next_drop [0, 1, 5, 6] [2] (j + 1) (show k0 < j + 1 ∧ j + 1 ≤ l.length by omega) (show l.length - (j + 1) < l.length - j by omega) ?_
        conv => whnf
        rw [es2, kill_nrL _ (nr_atts _), el, ← ej]
        rfl
      · have es := curF_hit hx hb
        have ef := fltF_hit hx hb
        rw [hb] at hpx
        unfold attA at hpx
        conv => whnf
        repeat' (first | (refine brd_t (by first | assumption | omega) ?_; conv => whnf) | (refine brd_f (by first | assumption | omega) ?_; conv => whnf) | (refine ask (by first | assumption | omega) ?_; conv => whnf) | (refine fit64 (by omega) ?_; conv => whnf) | (refine fit (by simp only [kmin, kmax]; omega) ?_; conv => whnf) | (refine br_t (by assumption) ?_; conv => whnf) | (refine br_f (by assumption) ?_; conv => whnf) | (refine get_of (by assumption) ?_; conv => whnf) | (refine get_map (by assumption) ?_; conv => whnf) | (refine call_eq hpx hC hasBody_15 ?_ ?_ ?_; kernel_rfl; kernel_rfl; conv => whnf) | (refine draw_lex hE ?_ ?_; decide +kernel; conv => whnf) | (refine brd (fun h => ?_) (fun h => ?_) <;> conv => whnf) | (refine br (fun h => ?_) (fun h => ?_) <;> conv => whnf) | (refine ret_now hE ?_; conv => whnf) | (intro hlen; conv => whnf) | (refine seg_here ?_; conv => whnf) | (refine both ?_ ?_ <;> conv => whnf))
        refine next_drop [0, 1, 5, 6] [2] (j + 1) (show k0 < j + 1 ∧ j + 1 ≤ l.length by omega) (show l.length - (j + 1) < l.length - j by omega) ?_
        conv => whnf
        rw [kill_nrL _ (nr_atts _), es, ef, ← ej]
        rfl
    · have hjl : j = l.length := by omega
      subst hjl
      conv => whnf
      repeat' (first | (refine brd_t (by first | assumption | omega) ?_; conv => whnf) | (refine brd_f (by first | assumption | omega) ?_; conv => whnf) | (refine ask (by first | assumption | omega) ?_; conv => whnf) | (refine fit64 (by omega) ?_; conv => whnf) | (refine fit (by simp only [kmin, kmax]; omega) ?_; conv => whnf) | (refine br_t (by assumption) ?_; conv => whnf) | (refine br_f (by assumption) ?_; conv => whnf) | (refine get_of (by assumption) ?_; conv => whnf) | (refine get_map (by assumption) ?_; conv => whnf) | (refine opn_clear hC Tryz.underlying33 hi1 hi2 rfl hz1 0 _ _ rfl rfl ?_ ?_ ?_; (rw [hcm]; omega); omega; conv => whnf) | (refine draw_lex hE ?_ ?_; decide +kernel; conv => whnf) | (refine brd (fun h => ?_) (fun h => ?_) <;> conv => whnf) | (refine br (fun h => ?_) (fun h => ?_) <;> conv => whnf) | (refine ret_now hE ?_; conv => whnf) | (intro hlen; conv => whnf) | (refine seg_here ?_; conv => whnf) | (refine both ?_ ?_ <;> conv => whnf))
      refine hret_up (up_here (hret_now hE ?_))
      conv => whnf
      refine ⟨rfl, rfl, by rw [Int.toNat_natCast], ?_⟩
      rw [← List.map_take, show 0 + (((fltF p l l.length).length : Nat) : Int).toNat = (fltF p l l.length).length by omega, show (curF p l l.length).take (fltF p l l.length).length = fltF p l l.length from List.take_left]
      rfl
end Go.Proofs.YtkkcmobnhiiacaaGreatDoor

/-! rules.Linked and the document's linked, walked. No conditions. -/
namespace Go.Proofs.YtkkcmobnhiiacaaGreatDoor
open Go.RowKit

theorem h_clone_att (l : List Atr) (hl : l.length * 32 ≤ 140737488351232) : HFn Tryz.prog 14 [.lst (l.map attA)] [.row 2 []] [] (fun r o => r = .sl 0 0 l.length ∧ o = [.row 2 (l.map attA)]) := by
  have hlm : (l.map attA).length = l.length := by simp
  have hcl : ∀ y ∈ l.map attA, y.cells.length = 2 := fun y hy => by obtain ⟨q, _, rfl⟩ := List.mem_map.1 hy; rfl
  have hkl : killL 2 (List.take 0 (List.drop 0 []) ++ l.map attA) = l.map attA := by rw [List.drop_nil, List.take_nil, List.nil_append, kill_nrL _ (nr_atts l)]
  refine hfnE (T := Tryz.tt) Tryz.func14 rfl tt_all follows_all ?_ ?_ fun C vs hC hE => ?_
  · kernel_rfl
  · exact Nat.le_of_ble_eq_true (by kernel_rfl)
  conv => whnf
  repeat' (first | (refine brd_t (by first | assumption | omega) ?_; conv => whnf) | (refine brd_f (by first | assumption | omega) ?_; conv => whnf) | (refine ask (by first | assumption | omega) ?_; conv => whnf) | (refine fit64 (by omega) ?_; conv => whnf) | (refine fit (by simp only [kmin, kmax]; omega) ?_; conv => whnf) | (refine br_t (by assumption) ?_; conv => whnf) | (refine br_f (by assumption) ?_; conv => whnf) | (refine get_of (by assumption) ?_; conv => whnf) | (refine get_map (by assumption) ?_; conv => whnf) | (refine ⟨hcl, ?_⟩; conv => whnf) | (refine draw_lex hE ?_ ?_; decide +kernel; conv => whnf) | (refine brd (fun h => ?_) (fun h => ?_) <;> conv => whnf) | (refine br (fun h => ?_) (fun h => ?_) <;> conv => whnf) | (refine ret_now hE ?_; conv => whnf) | (intro hlen; conv => whnf) | (refine seg_here ?_; conv => whnf) | (refine both ?_ ?_ <;> conv => whnf))
  · have h0 : l = [] := by have := hlen (by assumption); simpa using this
    subst h0
    refine hret_up (up_own 2 2 rfl rfl (up_drop 0 (up_move 2 0 (by decide) rfl rfl (up_here (hret_now hE ?_)))))
    conv => whnf
    exact ⟨rfl, rfl, rfl, rfl⟩
  · refine hret_up (up_drop 0 (up_move 2 0 (by decide) rfl rfl (up_here (hret_now hE ?_))))
    conv => whnf
    refine ⟨rfl, rfl, ?_, ?_⟩
    · show V.sl 0 0 (0 + (l.map attA).length) = V.sl 0 0 l.length
      rw [hlm, Nat.zero_add]
    · rw [hkl]
      show [Ob.row 2 (mvL 2 0 (killL 0 (l.map attA)))] = _
      rw [kill_nrL _ (nr_atts l), mv_nrL _ _ (nr_atts l)]

def keepA (N S : List (List UInt8)) (l : List Atr) : List Atr := l.filter fun a => !badA N S a
mutual
def linkN (N S : List (List UInt8)) : Nd → Nd
  | .mk n a t ps => .mk n (keepA N S a) t (linkL N S ps)
def linkL (N S : List (List UInt8)) : List Nd → List Nd
  | [] => []
  | x :: l => linkN N S x :: linkL N S l
end
theorem linkL_map (N S : List (List UInt8)) : ∀ l, linkL N S l = l.map (linkN N S)
  | [] => by simp [linkL]
  | x :: l => by simp [linkL, linkL_map N S l]
theorem linkL_step {N S : List (List UInt8)} {l : List Nd} {k : Nat} {n : List UInt8} {a : List Atr} {t : List UInt8} {ps : List Nd} (h : l[k]? = some (.mk n a t ps)) : nodesL (linkL N S (l.take (k + 1))) = nodesL (linkL N S (l.take k)) ++ [.agg [.str n, .lst ((keepA N S a).map attA), .str t, .lst (nodesL (linkL N S ps))]] := by
  rw [List.take_add_one, h, linkL_map, linkL_map, List.map_append, nodesL_append]
  simp [linkN, nodesL, nodeA_mk]
theorem linkL_len (N S : List (List UInt8)) (l : List Nd) : (linkL N S l).length = l.length := by rw [linkL_map]; simp
/-! ### Nodes that may be read -/
mutual
def vN : Nd → Prop
  | .mk _ a _ ps => a.length * 32 ≤ 140737488351232 ∧ (∀ x ∈ a, x.value.length ≤ 140737488351232) ∧ ps.length * 80 ≤ 140737488351232 ∧ vA ps
def vA : List Nd → Prop
  | [] => True
  | x :: xs => vN x ∧ vA xs
end
def vL (l : List Nd) : Prop := l.length * 80 ≤ 140737488351232 ∧ vA l
theorem vA_iff : ∀ {l : List Nd}, vA l ↔ ∀ x ∈ l, vN x
  | [] => by simp [vA]
  | y :: l => by rw [vA, vA_iff (l := l)]; simp
theorem vN_mk {n : List UInt8} {a : List Atr} {t : List UInt8} {ps : List Nd} : vN (.mk n a t ps) ↔ a.length * 32 ≤ 140737488351232 ∧ (∀ x ∈ a, x.value.length ≤ 140737488351232) ∧ vL ps := by rw [vN]; exact Iff.rfl
theorem keepA_len (N S : List (List UInt8)) (a : List Atr) : (keepA N S a).length ≤ a.length := List.length_filter_le _ _
theorem call_ownR {C : Ctx} {P : Program} {f : FuncId} {z n0 m : Nat} {els els' xs0 xs1 : List V} {fop : Operand} {args : List Operand} {K : V → ES → Prop} {σ : ES} (h : HFn P f (.sl 0 0 n0 :: xs0) [.row z els] [] (fun r o => r = .sl 0 0 m ∧ o = [.row z els'])) (hC : C.P = P) (hb : hasBody P f = true)
    (p : Nat) (he : evalC σ fop args = some (f, .sl p 0 n0 :: xs1)) (hx : rnL 1 (fun _ => p) xs0 xs1) (hrow : σ.heap[p]? = some (some (.row z els))) (hn : nrL els) (hn' : nrL els')
    (hK : killUE p σ.u fun u => fH ((killH p σ.heap).set p (some (.row z els'))) fun h => K (.sl p 0 m) ⟨σ.n, u, h⟩) : CallN C fop args f (.sl p 0 n0 :: xs1) K σ := by
  rw [killUE_eq, fH_eq] at hK
  refine call_h h hC hb he (fun _ => p) ?_ ?_ ?_ [p] ?_ ?_ ?_
  · intro i j hi hj _
    simp at hi hj
    omega
  · simp only [rnL]
    exact ⟨.sl p 0 n0, xs1, rfl, by simp [rnV], hx⟩
  · intro j o ho
    match j, ho with
    | 0, ho =>
      simp at ho
      subst ho
      exact ⟨_, hrow, els, rfl, rnL_self hn⟩
    | n + 1, ho => simp at ho
  · intro j _ hn
    exact absurd (by simp) hn
  · intro id hid
    simp at hid
    exact ⟨0, by simp, hid.symm⟩
  · rintro r0 objs' ⟨rfl, rfl⟩ _
    refine ⟨.sl p 0 m, [.row z els'], by simp [rnV], rfl, ?_, hK⟩
    intro j o o' ho ho'
    match j, ho, ho' with
    | 0, ho, ho' =>
      simp at ho ho'
      subst ho; subst ho'
      exact ⟨els', rfl, rnL_self hn'⟩
    | n + 1, ho, _ => simp at ho


set_option maxHeartbeats 8000000 in
theorem rules_linked (N S : List (List UInt8)) : ∀ (m : Nat) (l : List Nd), szL l ≤ m → vL l → Fn1 Tryz.prog 8 [.lst (N.map V.str), .lst (S.map V.str), .lst (nodesL l)] (fun r => r = .lst (nodesL (linkL N S l))) := by
  intro m
  induction m with
  | zero =>
    intro l hm hv
    have hl : l = [] := List.eq_nil_of_length_eq_zero (by have := szL_len l; omega)
    subst hl
    refine fn1_nl ?_
    refine fn1E (T := Tryz.tt) Tryz.func8 rfl tt_all follows_all ?_ ?_ fun C hC hE => ?_
    · kernel_rfl
    · exact Nat.le_of_ble_eq_true (by kernel_rfl)
    conv => whnf
    repeat' (first | (refine brd_t (by first | assumption | omega) ?_; conv => whnf) | (refine brd_f (by first | assumption | omega) ?_; conv => whnf) | (refine ask (by first | assumption | omega) ?_; conv => whnf) | (refine fit64 (by omega) ?_; conv => whnf) | (refine fit (by simp only [kmin, kmax]; omega) ?_; conv => whnf) | (refine br_t (by assumption) ?_; conv => whnf) | (refine br_f (by assumption) ?_; conv => whnf) | (refine get_of (by assumption) ?_; conv => whnf) | (refine get_map (by assumption) ?_; conv => whnf) | (refine draw_lex hE ?_ ?_; decide +kernel; conv => whnf) | (refine brd (fun h => ?_) (fun h => ?_) <;> conv => whnf) | (refine br (fun h => ?_) (fun h => ?_) <;> conv => whnf) | (refine ret_now hE ?_; conv => whnf) | (intro hlen; conv => whnf) | (refine seg_here ?_; conv => whnf) | (refine both ?_ ?_ <;> conv => whnf))
    refine loopE (fun k : Nat => ⟨34, [(7, .nils), (10, .lst (nodesL [])), (11, .int .i64 (nodesL []).length), (12, .int .i64 0)], []⟩) (fun k => True) (fun k => 0) 0 hE ?_ ?_ trivial ?_
    · kernel_rfl
    · exact at_wipe [7, 10, 11, 12] rfl rfl
    intro k hk
    have h0 : (nodesL []).length = 0 := nodesL_length []
    conv => whnf
    repeat' (first | (refine brd_t (by first | assumption | omega) ?_; conv => whnf) | (refine brd_f (by first | assumption | omega) ?_; conv => whnf) | (refine ask (by first | assumption | omega) ?_; conv => whnf) | (refine fit64 (by omega) ?_; conv => whnf) | (refine fit (by simp only [kmin, kmax]; omega) ?_; conv => whnf) | (refine br_t (by assumption) ?_; conv => whnf) | (refine br_f (by assumption) ?_; conv => whnf) | (refine get_of (by assumption) ?_; conv => whnf) | (refine get_map (by assumption) ?_; conv => whnf) | (refine draw_lex hE ?_ ?_; decide +kernel; conv => whnf) | (refine brd (fun h => ?_) (fun h => ?_) <;> conv => whnf) | (refine br (fun h => ?_) (fun h => ?_) <;> conv => whnf) | (refine ret_now hE ?_; conv => whnf) | (intro hlen; conv => whnf) | (refine seg_here ?_; conv => whnf) | (refine both ?_ ?_ <;> conv => whnf))
    all_goals exact ⟨rfl, by simp [V.nl, linkL, nodesL]⟩
  | succ m ih =>
    intro l hm hv
    have hlm := nodesL_length l
    have hvl := hv.1
    refine fn1E (T := Tryz.tt) Tryz.func8 rfl tt_all follows_all ?_ ?_ fun C hC hE => ?_
    · kernel_rfl
    · exact Nat.le_of_ble_eq_true (by kernel_rfl)
    conv => whnf
    repeat' (first | (refine brd_t (by first | assumption | omega) ?_; conv => whnf) | (refine brd_f (by first | assumption | omega) ?_; conv => whnf) | (refine ask (by first | assumption | omega) ?_; conv => whnf) | (refine fit64 (by omega) ?_; conv => whnf) | (refine fit (by simp only [kmin, kmax]; omega) ?_; conv => whnf) | (refine br_t (by assumption) ?_; conv => whnf) | (refine br_f (by assumption) ?_; conv => whnf) | (refine get_of (by assumption) ?_; conv => whnf) | (refine get_map (by assumption) ?_; conv => whnf) | (refine draw_lex hE ?_ ?_; decide +kernel; conv => whnf) | (refine brd (fun h => ?_) (fun h => ?_) <;> conv => whnf) | (refine br (fun h => ?_) (fun h => ?_) <;> conv => whnf) | (refine ret_now hE ?_; conv => whnf) | (intro hlen; conv => whnf) | (refine seg_here ?_; conv => whnf) | (refine both ?_ ?_ <;> conv => whnf))
    refine loopE (fun k : Nat => ⟨34, [(3, .rp [.lst (N.map V.str)]), (4, .rp [.lst (S.map V.str)]), (7, .sl 0 0 (linkL N S (l.take k)).length), (10, .lst (nodesL l)), (11, .int .i64 (nodesL l).length), (12, .int .i64 k)], [some (.row 4 (nodesL (linkL N S (l.take k))))]⟩) (fun k => k ≤ l.length) (fun k => l.length - k) 0 hE ?_ ?_ (Nat.zero_le _) ?_
    · kernel_rfl
    · refine up_freeze 0 (z := 1) (els := [.lst (N.map V.str)]) rfl ⟨trivial, trivial⟩ (up_freeze 1 (z := 1) (els := [.lst (S.map V.str)]) rfl ⟨trivial, trivial⟩ (up_own 7 4 rfl rfl (at_drop [3, 4, 7, 10, 11, 12] [] ?_)))
      rfl
    intro k hk
    have hll := linkL_len N S (l.take k)
    by_cases hlt : k < l.length
    · obtain ⟨n, a, t, ps, hx, hx'⟩ := node_at hlt
      have hvx := vN_mk.1 (vA_iff.1 hv.2 _ (List.mem_of_getElem? hx))
      have hcl := h_clone_att a hvx.1
      have hdl := h_delete_func N S a hvx.2.1 (by have := hvx.1; omega)
      have hsz := szL_mem (List.mem_of_getElem? hx)
      rw [szN] at hsz
      have hih := ih ps (by omega) hvx.2.2
      have hst := linkL_step (N := N) (S := S) hx
      unfold capA at hdl
      unfold keepA at hst
      generalize hq : (List.filter (fun a => !badA N S a) a) = q at hdl hst
      have hql : (q.map attA).length = q.length := by simp
      have hle : 0 + q.length ≤ (q.map attA).length := by omega
      have htk : List.take q.length (List.drop 0 (q.map attA)) = q.map attA := by rw [List.drop_zero, List.take_of_length_le (by omega)]
      have hnl := nodesL_length (linkL N S (l.take k))
      have htk2 : List.take (linkL N S (l.take k)).length (List.drop 0 (nodesL (linkL N S (l.take k)))) = nodesL (linkL N S (l.take k)) := by rw [List.drop_zero, List.take_of_length_le (by omega)]
      have hkl : k ≤ l.length := hk
      have hl1 : (linkL N S (l.take k)).length = k := by rw [hll]; simp; omega
      have hl2 : (linkL N S (l.take (k + 1))).length = (linkL N S (l.take k)).length + 1 := by rw [linkL_len, linkL_len]; simp; omega
      conv => whnf
      repeat' (first | (refine brd_t (by first | assumption | omega) ?_; conv => whnf) | (refine brd_f (by first | assumption | omega) ?_; conv => whnf) | (refine ask (by first | assumption | omega) ?_; conv => whnf) | (refine fit64 (by omega) ?_; conv => whnf) | (refine fit (by simp only [kmin, kmax]; omega) ?_; conv => whnf) | (refine br_t (by assumption) ?_; conv => whnf) | (refine br_f (by assumption) ?_; conv => whnf) | (refine get_of (by assumption) ?_; conv => whnf) | (refine get_map (by assumption) ?_; conv => whnf) | (refine call_up (up_new 2 (up_here ?_)); (conv => whnf); refine call_fresh hcl hC hasBody_14 2 rfl ?_ rfl (nr_atts _) ?_; exact rnL_self ⟨trivial, trivial⟩; conv => whnf) | (refine call_ownR hdl hC hasBody_13 2 rfl ?_ rfl (nr_atts _) (nr_atts _) ?_; exact rnL_self ⟨⟨trivial, trivial, trivial⟩, trivial⟩; conv => whnf) | (refine draw_lex hE ?_ ?_; decide +kernel; conv => whnf) | (refine brd (fun h => ?_) (fun h => ?_) <;> conv => whnf) | (refine br (fun h => ?_) (fun h => ?_) <;> conv => whnf) | (refine ret_now hE ?_; conv => whnf) | (intro hlen; conv => whnf) | (refine seg_here ?_; conv => whnf) | (refine both ?_ ?_ <;> conv => whnf))
      have e1 : frzL 2 (q.map attA) (killL 2 (killL 2 (nodesL (linkL N S (l.take k))))) = nodesL (linkL N S (l.take k)) := by rw [kill_nrL _ (nodesL_nr _), kill_nrL _ (nodesL_nr _), frz_nrL _ _ (nodesL_nr _)]
      have e2 : (V.sl 2 0 q.length).frz 2 (q.map attA) = .lst (q.map attA) := by rw [frz_sl, if_pos rfl, if_pos hle, htk]
      refine call_up (up_freeze 2 (z := 2) (els := q.map attA) rfl (nr_atts _) (up_at [22, 23, 25, 3, 4, 7, 9, 10, 11, 12]
        (σ' := ⟨34, [(22, .lst (N.map V.str)), (23, .lst (S.map V.str)), (25, .lst (nodesL ps)), (3, .rp [.lst (N.map V.str)]), (4, .rp [.lst (S.map V.str)]), (7, .sl 0 0 (linkL N S (l.take k)).length), (9, .ptr 1 0 0), (10, .lst (nodesL l)), (11, .int .i64 (nodesL l).length), (12, .int .i64 k)], [some (.row 4 (nodesL (linkL N S (l.take k)))), some (.row 4 [.agg [.str n, .lst (q.map attA), .str t, .lst (nodesL ps)]]), none]⟩)
        (Eq.trans (b := (⟨34, [(22, .lst (N.map V.str)), (23, .lst (S.map V.str)), (25, .lst (nodesL ps)), (3, .rp [.lst (N.map V.str)]), (4, .rp [.lst (S.map V.str)]), (7, .sl 0 0 (linkL N S (l.take k)).length), (9, .ptr 1 0 0), (10, .lst (nodesL l)), (11, .int .i64 (nodesL l).length), (12, .int .i64 k)], [some (.row 4 (frzL 2 (q.map attA) (killL 2 (killL 2 (nodesL (linkL N S (l.take k))))))), some (.row 4 [.agg [.str n, (V.sl 2 0 q.length).frz 2 (q.map attA), .str t, .lst (nodesL ps)]]), none]⟩ : ES)) ?_ ?_) ?_))
      · kernel_rfl
      · rw [e1, e2]
      conv => whnf
      repeat' (first | (refine brd_t (by first | assumption | omega) ?_; conv => whnf) | (refine brd_f (by first | assumption | omega) ?_; conv => whnf) | (refine ask (by first | assumption | omega) ?_; conv => whnf) | (refine fit64 (by omega) ?_; conv => whnf) | (refine fit (by simp only [kmin, kmax]; omega) ?_; conv => whnf) | (refine br_t (by assumption) ?_; conv => whnf) | (refine br_f (by assumption) ?_; conv => whnf) | (refine get_of (by assumption) ?_; conv => whnf) | (refine get_map (by assumption) ?_; conv => whnf) | (refine call_eq (hih) hC hasBody_8 ?_ ?_ ?_; kernel_rfl; kernel_rfl; conv => whnf) | (refine callq_eq (hih) hC hasBody_8 ?_ ?_ ?_; kernel_rfl; kernel_rfl; conv => whnf) | (refine ask (Nat.le_refl 1) ?_; conv => whnf) | (refine ask ⟨?_, ?_, ?_⟩ ?_; omega; (show _ + 1 ≤ 9223372036854775807; omega); (show (_ + 1) * 80 ≤ 140737488355328; omega); conv => whnf) | (refine draw_lex hE ?_ ?_; decide +kernel; conv => whnf) | (refine brd (fun h => ?_) (fun h => ?_) <;> conv => whnf) | (refine br (fun h => ?_) (fun h => ?_) <;> conv => whnf) | (refine ret_now hE ?_; conv => whnf) | (intro hlen; conv => whnf) | (refine seg_here ?_; conv => whnf) | (refine both ?_ ?_ <;> conv => whnf))
      have e5 : List.take (linkL N S (l.take k)).length (List.drop 0 (nodesL (linkL N S (l.take k)))) ++ List.take 1 (List.drop 0 [V.agg [V.str n, V.lst (List.map attA q), V.str t, V.lst (nodesL (linkL N S ps))]]) = nodesL (linkL N S (l.take (k + 1))) := by rw [htk2, hst]; rfl
      refine next_drop [3, 4, 7, 10, 11, 12] [1, 2] (k + 1) (show k + 1 ≤ l.length by omega) (show l.length - (k + 1) < l.length - k by omega) ?_
      conv => whnf
      rw [e5, kill_nrL _ (nodesL_nr _), kill_nrL _ (nodesL_nr _), kill_nrL _ (nodesL_nr _), hl2]
      rfl
    · have hkl : k = l.length := by have : k ≤ l.length := hk; omega
      have htl : l.take k = l := List.take_of_length_le (by omega)
      have hnl := nodesL_length (linkL N S l)
      rw [htl]
      conv => whnf
      repeat' (first | (refine brd_t (by first | assumption | omega) ?_; conv => whnf) | (refine brd_f (by first | assumption | omega) ?_; conv => whnf) | (refine ask (by first | assumption | omega) ?_; conv => whnf) | (refine fit64 (by omega) ?_; conv => whnf) | (refine fit (by simp only [kmin, kmax]; omega) ?_; conv => whnf) | (refine br_t (by assumption) ?_; conv => whnf) | (refine br_f (by assumption) ?_; conv => whnf) | (refine get_of (by assumption) ?_; conv => whnf) | (refine get_map (by assumption) ?_; conv => whnf) | (refine ret_up (up_frzK 0 6 [] rfl (nodesL_nr _) rfl ?_ rfl (up_here ?_)); (exact hnl.symm)) | (refine draw_lex hE ?_ ?_; decide +kernel; conv => whnf) | (refine brd (fun h => ?_) (fun h => ?_) <;> conv => whnf) | (refine br (fun h => ?_) (fun h => ?_) <;> conv => whnf) | (refine ret_now hE ?_; conv => whnf) | (intro hlen; conv => whnf) | (refine seg_here ?_; conv => whnf) | (refine both ?_ ?_ <;> conv => whnf))
      all_goals exact ⟨rfl, rfl⟩
end Go.Proofs.YtkkcmobnhiiacaaGreatDoor

/-! The document's linked, walked. No conditions. -/
namespace Go.Proofs.YtkkcmobnhiiacaaGreatDoor
open Go.RowKit

theorem frz_nd (id : Nat) (n : List UInt8) (q : List Atr) (t : List UInt8) (ps : List V) : frzL id (q.map attA) [.agg [.str n, .sl id 0 q.length, .str t, .lst ps]] = [.agg [.str n, .lst (q.map attA), .str t, .lst ps]] := by
  simp [frzL, V.frz]
  exact List.take_of_length_le (by simp)
theorem keepA_all (N S : List (List UInt8)) (a : List Atr) : fltF (badA N S) a a.length = keepA N S a := fltF_all (Nat.le_refl _)
set_option maxHeartbeats 8000000 in
theorem ref_linked (N S : List (List UInt8)) (hS : Strs S) (hc0 : codeS S = 0) : ∀ (m : Nat) (l : List Nd), szL l ≤ m → vL l → Fn1 Tryz.prog 10 [.lst (N.map V.str), .lst (S.map V.str), .lst (nodesL l)] (fun r => r = .lst (nodesL (linkL N S l))) := by
  intro m
  induction m with
  | zero =>
    intro l hm hv
    have hl : l = [] := List.eq_nil_of_length_eq_zero (by have := szL_len l; omega)
    subst hl
    refine fn1_nl ?_
    refine fn1E (T := Tryz.tt) Tryz.func10 rfl tt_all follows_all ?_ ?_ fun C hC hE => ?_
    · kernel_rfl
    · exact Nat.le_of_ble_eq_true (by kernel_rfl)
    conv => whnf
    repeat' (first | (refine brd_t (by first | assumption | omega) ?_; conv => whnf) | (refine brd_f (by first | assumption | omega) ?_; conv => whnf) | (refine ask (by first | assumption | omega) ?_; conv => whnf) | (refine fit64 (by omega) ?_; conv => whnf) | (refine fit (by simp only [kmin, kmax]; omega) ?_; conv => whnf) | (refine br_t (by assumption) ?_; conv => whnf) | (refine br_f (by assumption) ?_; conv => whnf) | (refine get_of (by assumption) ?_; conv => whnf) | (refine get_map (by assumption) ?_; conv => whnf) | (refine draw_lex hE ?_ ?_; decide +kernel; conv => whnf) | (refine draw_any hE [⟨1, [(0, none), (1, none), (2, none), (3, none), (4, none), (5, none), (6, none), (7, none), (8, none), (9, none), (10, some 0)], some 11, [], [[]]⟩] ?_ ?_; decide +kernel; conv => whnf) | (refine brd (fun h => ?_) (fun h => ?_) <;> conv => whnf) | (refine br (fun h => ?_) (fun h => ?_) <;> conv => whnf) | (refine ret_now hE ?_; conv => whnf) | (intro hlen; conv => whnf) | (refine seg_here ?_; conv => whnf) | (refine both ?_ ?_ <;> conv => whnf))
    refine loopE (fun k : Nat => ⟨66, [(7, .nils), (15, .lst (nodesL [])), (16, .int .i64 (nodesL []).length), (17, .int .i64 0)], []⟩) (fun k => True) (fun k => 0) 0 hE ?_ ?_ trivial ?_
    · kernel_rfl
    · exact at_keep [7, 15, 16, 17] rfl
    intro k hk
    have h0 : (nodesL []).length = 0 := nodesL_length []
    conv => whnf
    repeat' (first | (refine brd_t (by first | assumption | omega) ?_; conv => whnf) | (refine brd_f (by first | assumption | omega) ?_; conv => whnf) | (refine ask (by first | assumption | omega) ?_; conv => whnf) | (refine fit64 (by omega) ?_; conv => whnf) | (refine fit (by simp only [kmin, kmax]; omega) ?_; conv => whnf) | (refine br_t (by assumption) ?_; conv => whnf) | (refine br_f (by assumption) ?_; conv => whnf) | (refine get_of (by assumption) ?_; conv => whnf) | (refine get_map (by assumption) ?_; conv => whnf) | (refine draw_lex hE ?_ ?_; decide +kernel; conv => whnf) | (refine draw_any hE [⟨1, [(0, none), (1, none), (2, none), (3, none), (4, none), (5, none), (6, none), (7, none), (8, none), (9, none), (10, some 0)], some 11, [], [[]]⟩] ?_ ?_; decide +kernel; conv => whnf) | (refine brd (fun h => ?_) (fun h => ?_) <;> conv => whnf) | (refine br (fun h => ?_) (fun h => ?_) <;> conv => whnf) | (refine ret_now hE ?_; conv => whnf) | (intro hlen; conv => whnf) | (refine seg_here ?_; conv => whnf) | (refine both ?_ ?_ <;> conv => whnf))
    all_goals exact ⟨rfl, by simp [V.nl, linkL, nodesL]⟩
  | succ m ih =>
    intro l hm hv
    have hlm := nodesL_length l
    have hvl := hv.1
    refine fn1E (T := Tryz.tt) Tryz.func10 rfl tt_all follows_all ?_ ?_ fun C hC hE => ?_
    · kernel_rfl
    · exact Nat.le_of_ble_eq_true (by kernel_rfl)
    conv => whnf
    repeat' (first | (refine brd_t (by first | assumption | omega) ?_; conv => whnf) | (refine brd_f (by first | assumption | omega) ?_; conv => whnf) | (refine ask (by first | assumption | omega) ?_; conv => whnf) | (refine fit64 (by omega) ?_; conv => whnf) | (refine fit (by simp only [kmin, kmax]; omega) ?_; conv => whnf) | (refine br_t (by assumption) ?_; conv => whnf) | (refine br_f (by assumption) ?_; conv => whnf) | (refine get_of (by assumption) ?_; conv => whnf) | (refine get_map (by assumption) ?_; conv => whnf) | (refine draw_lex hE ?_ ?_; decide +kernel; conv => whnf) | (refine draw_any hE [⟨1, [(0, none), (1, none), (2, none), (3, none), (4, none), (5, none), (6, none), (7, none), (8, none), (9, none), (10, some 0)], some 11, [], [[]]⟩] ?_ ?_; decide +kernel; conv => whnf) | (refine brd (fun h => ?_) (fun h => ?_) <;> conv => whnf) | (refine br (fun h => ?_) (fun h => ?_) <;> conv => whnf) | (refine ret_now hE ?_; conv => whnf) | (intro hlen; conv => whnf) | (refine seg_here ?_; conv => whnf) | (refine both ?_ ?_ <;> conv => whnf))
    refine loopE (fun k : Nat => ⟨66, [(0, .lst (N.map V.str)), (1, .lst (S.map V.str)), (7, .sl 0 0 (linkL N S (l.take k)).length), (15, .lst (nodesL l)), (16, .int .i64 (nodesL l).length), (17, .int .i64 k)], [some (.row 4 (nodesL (linkL N S (l.take k))))]⟩) (fun k => k ≤ l.length) (fun k => l.length - k) 0 hE ?_ ?_ (Nat.zero_le _) ?_
    · kernel_rfl
    · exact up_own 7 4 rfl rfl (at_keep [0, 1, 7, 15, 16, 17] rfl)
    intro k hk
    have hll := linkL_len N S (l.take k)
    by_cases hlt : k < l.length
    · obtain ⟨n, a, t, ps, hx, hx'⟩ := node_at hlt
      have hvx := vN_mk.1 (vA_iff.1 hv.2 _ (List.mem_of_getElem? hx))
      have hsz := szL_mem (List.mem_of_getElem? hx)
      rw [szN] at hsz
      have hih := ih ps (by omega) hvx.2.2
      have hst := linkL_step (N := N) (S := S) hx
      have hnl := nodesL_length (linkL N S (l.take k))
      have htk2 : List.take (linkL N S (l.take k)).length (List.drop 0 (nodesL (linkL N S (l.take k)))) = nodesL (linkL N S (l.take k)) := by rw [List.drop_zero, List.take_of_length_le (by omega)]
      have hkl : k ≤ l.length := hk
      have hl1 : (linkL N S (l.take k)).length = k := by rw [hll]; simp; omega
      have hl2 : (linkL N S (l.take (k + 1))).length = (linkL N S (l.take k)).length + 1 := by rw [linkL_len, linkL_len]; simp; omega
      have ham : (a.map attA).length = a.length := by simp
      have hva := hvx.1
      conv => whnf
      repeat' (first | (refine brd_t (by first | assumption | omega) ?_; conv => whnf) | (refine brd_f (by first | assumption | omega) ?_; conv => whnf) | (refine ask (by first | assumption | omega) ?_; conv => whnf) | (refine fit64 (by omega) ?_; conv => whnf) | (refine fit (by simp only [kmin, kmax]; omega) ?_; conv => whnf) | (refine br_t (by assumption) ?_; conv => whnf) | (refine br_f (by assumption) ?_; conv => whnf) | (refine get_of (by assumption) ?_; conv => whnf) | (refine get_map (by assumption) ?_; conv => whnf) | (refine call_eq (hih) hC hasBody_10 ?_ ?_ ?_; kernel_rfl; kernel_rfl; conv => whnf) | (refine callq_eq (hih) hC hasBody_10 ?_ ?_ ?_; kernel_rfl; kernel_rfl; conv => whnf) | (refine draw_lex hE ?_ ?_; decide +kernel; conv => whnf) | (refine draw_any hE [⟨1, [(0, none), (1, none), (2, none), (3, none), (4, none), (5, none), (6, none), (7, none), (8, none), (9, none), (10, some 0)], some 11, [], [[]]⟩] ?_ ?_; decide +kernel; conv => whnf) | (refine brd (fun h => ?_) (fun h => ?_) <;> conv => whnf) | (refine br (fun h => ?_) (fun h => ?_) <;> conv => whnf) | (refine ret_now hE ?_; conv => whnf) | (intro hlen; conv => whnf) | (refine seg_here ?_; conv => whnf) | (refine both ?_ ?_ <;> conv => whnf))
      refine loopE (fun j : Nat => ⟨66, [(0, .lst (N.map V.str)), (1, .lst (S.map V.str)), (7, .sl 0 0 (linkL N S (l.take k)).length), (10, .ptr 2 0 0), (15, .lst (nodesL l)), (16, .int .i64 (nodesL l).length), (17, .int .i64 k), (32, .lst (a.map attA)), (33, .int .i64 (a.map attA).length), (34, .int .i64 j)],
          [some (.row 4 (nodesL (linkL N S (l.take k)))), some (.row 4 [.agg [.str n, .lst (a.map attA), .str t, .lst (nodesL ps)]]), some (.row 4 [.agg [.str n, .sl 3 0 (fltF (badA N S) a j).length, .str t, .lst (nodesL (linkL N S ps))]]), some (.row 2 ((fltF (badA N S) a j).map attA))]⟩)
        (fun j => j ≤ a.length) (fun j => a.length - j) 0 hE ?_ ?_ (Nat.zero_le _) ?_
      · kernel_rfl
      · exact up_ownF 2 1 2 (z := 4) (l := [.str n, .nils, .str t, .lst (nodesL (linkL N S ps))]) rfl rfl (at_keep [0, 1, 7, 10, 15, 16, 17, 32, 33, 34] rfl)
      intro j hj
      have hj : j ≤ a.length := hj
      have hfl := fltF_len (badA N S) a j
      have hfm : ((fltF (badA N S) a j).map attA).length = (fltF (badA N S) a j).length := by simp
      have hkn : ∀ id, killL id (nodesL (linkL N S (l.take k))) = nodesL (linkL N S (l.take k)) := fun id => kill_nrL id (nodesL_nr _)
      by_cases hja : j < a.length
      · obtain ⟨x, hxa⟩ : ∃ x, a[j]? = some x := ⟨_, List.getElem?_eq_getElem hja⟩
        have hxv := hvx.2.1 x (List.mem_of_getElem? hxa)
        have hus := ref_safe x.value S hxv hS
        have hof := one_of x.name N
        rw [hc0] at hus
        have hbe : badA N S x = (decide (x.name ∈ N) && !ofS x.value S) := rfl
        obtain ⟨xn, xv⟩ := x
        simp only at hus hof hbe
        have hxm : (a.map attA)[j]? = some (.agg [.str xn, .str xv]) := by rw [List.getElem?_map, hxa]; rfl
        have hka : ∀ id l, killL id (List.map attA l) = List.map attA l := fun id l => kill_nrL id (nr_atts l)
        cases ho : ofS xv S
        · cases hm2 : decide (xn ∈ N)
          · rw [ho] at hus hbe
            rw [hm2] at hof hbe
            have hfs := fltF_miss (p := badA N S) hxa hbe
            have e5 : List.take (fltF (badA N S) a j).length (List.drop 0 ((fltF (badA N S) a j).map attA)) ++ List.take 1 (List.drop 0 [V.agg [V.str xn, V.str xv]]) = (fltF (badA N S) a (j + 1)).map attA := by rw [List.drop_zero, List.take_of_length_le (by omega), hfs, List.map_append]; rfl
            have e6 : (fltF (badA N S) a j).length + (List.take 1 (List.drop 0 [V.agg [V.str xn, V.str xv]])).length = (fltF (badA N S) a (j + 1)).length := by rw [hfs]; simp
            conv => whnf
            repeat' (first | (refine brd_t (by first | assumption | omega) ?_; conv => whnf) | (refine brd_f (by first | assumption | omega) ?_; conv => whnf) | (refine ask (by first | assumption | omega) ?_; conv => whnf) | (refine fit64 (by omega) ?_; conv => whnf) | (refine fit (by simp only [kmin, kmax]; omega) ?_; conv => whnf) | (refine br_t (by assumption) ?_; conv => whnf) | (refine br_f (by assumption) ?_; conv => whnf) | (refine get_of (by assumption) ?_; conv => whnf) | (refine get_map (by assumption) ?_; conv => whnf) | (refine call_eq (hus) hC hasBody_9 ?_ ?_ ?_; kernel_rfl; kernel_rfl; conv => whnf) | (refine callq_eq (hus) hC hasBody_9 ?_ ?_ ?_; kernel_rfl; kernel_rfl; conv => whnf) | (refine call_eq (hof) hC hasBody_19 ?_ ?_ ?_; kernel_rfl; kernel_rfl; conv => whnf) | (refine callq_eq (hof) hC hasBody_19 ?_ ?_ ?_; kernel_rfl; kernel_rfl; conv => whnf) | (refine ask (Nat.le_refl 1) ?_; conv => whnf) | (refine ask ⟨?_, ?_, ?_⟩ ?_; omega; (show _ + 1 ≤ 9223372036854775807; omega); (show (_ + 1) * 32 ≤ 140737488355328; omega); conv => whnf) | (refine draw_lex hE ?_ ?_; decide +kernel; conv => whnf) | (refine draw_any hE [⟨1, [(0, none), (1, none), (2, none), (3, none), (4, none), (5, none), (6, none), (7, none), (8, none), (9, none), (10, some 0)], some 11, [], [[]]⟩] ?_ ?_; decide +kernel; conv => whnf) | (refine brd (fun h => ?_) (fun h => ?_) <;> conv => whnf) | (refine br (fun h => ?_) (fun h => ?_) <;> conv => whnf) | (refine ret_now hE ?_; conv => whnf) | (intro hlen; conv => whnf) | (refine seg_here ?_; conv => whnf) | (refine both ?_ ?_ <;> conv => whnf))
            refine next_drop [0, 1, 7, 10, 15, 16, 17, 32, 33, 34] [4, 5] (j + 1) (show j + 1 ≤ a.length by omega) (show a.length - (j + 1) < a.length - j by omega) ?_
            conv => whnf
            simp only [e5, e6, hkn, hka]
            rfl
          · rw [ho] at hus hbe
            rw [hm2] at hof hbe
            have hfs := fltF_hit (p := badA N S) hxa hbe
            conv => whnf
            repeat' (first | (refine brd_t (by first | assumption | omega) ?_; conv => whnf) | (refine brd_f (by first | assumption | omega) ?_; conv => whnf) | (refine ask (by first | assumption | omega) ?_; conv => whnf) | (refine fit64 (by omega) ?_; conv => whnf) | (refine fit (by simp only [kmin, kmax]; omega) ?_; conv => whnf) | (refine br_t (by assumption) ?_; conv => whnf) | (refine br_f (by assumption) ?_; conv => whnf) | (refine get_of (by assumption) ?_; conv => whnf) | (refine get_map (by assumption) ?_; conv => whnf) | (refine call_eq (hus) hC hasBody_9 ?_ ?_ ?_; kernel_rfl; kernel_rfl; conv => whnf) | (refine callq_eq (hus) hC hasBody_9 ?_ ?_ ?_; kernel_rfl; kernel_rfl; conv => whnf) | (refine call_eq (hof) hC hasBody_19 ?_ ?_ ?_; kernel_rfl; kernel_rfl; conv => whnf) | (refine callq_eq (hof) hC hasBody_19 ?_ ?_ ?_; kernel_rfl; kernel_rfl; conv => whnf) | (refine draw_lex hE ?_ ?_; decide +kernel; conv => whnf) | (refine draw_any hE [⟨1, [(0, none), (1, none), (2, none), (3, none), (4, none), (5, none), (6, none), (7, none), (8, none), (9, none), (10, some 0)], some 11, [], [[]]⟩] ?_ ?_; decide +kernel; conv => whnf) | (refine brd (fun h => ?_) (fun h => ?_) <;> conv => whnf) | (refine br (fun h => ?_) (fun h => ?_) <;> conv => whnf) | (refine ret_now hE ?_; conv => whnf) | (intro hlen; conv => whnf) | (refine seg_here ?_; conv => whnf) | (refine both ?_ ?_ <;> conv => whnf))
            refine next_drop [0, 1, 7, 10, 15, 16, 17, 32, 33, 34] [4] (j + 1) (show j + 1 ≤ a.length by omega) (show a.length - (j + 1) < a.length - j by omega) ?_
            conv => whnf
            simp only [hfs, hkn, hka]
            rfl
        · have hbe : badA N S ⟨xn, xv⟩ = false := by rw [hbe, ho]; simp
          rw [ho] at hus
          have hfs := fltF_miss (p := badA N S) hxa hbe
          have e5 : List.take (fltF (badA N S) a j).length (List.drop 0 ((fltF (badA N S) a j).map attA)) ++ List.take 1 (List.drop 0 [V.agg [V.str xn, V.str xv]]) = (fltF (badA N S) a (j + 1)).map attA := by rw [List.drop_zero, List.take_of_length_le (by omega), hfs, List.map_append]; rfl
          have e6 : (fltF (badA N S) a j).length + (List.take 1 (List.drop 0 [V.agg [V.str xn, V.str xv]])).length = (fltF (badA N S) a (j + 1)).length := by rw [hfs]; simp
          conv => whnf
          repeat' (first | (refine brd_t (by first | assumption | omega) ?_; conv => whnf) | (refine brd_f (by first | assumption | omega) ?_; conv => whnf) | (refine ask (by first | assumption | omega) ?_; conv => whnf) | (refine fit64 (by omega) ?_; conv => whnf) | (refine fit (by simp only [kmin, kmax]; omega) ?_; conv => whnf) | (refine br_t (by assumption) ?_; conv => whnf) | (refine br_f (by assumption) ?_; conv => whnf) | (refine get_of (by assumption) ?_; conv => whnf) | (refine get_map (by assumption) ?_; conv => whnf) | (refine call_eq (hus) hC hasBody_9 ?_ ?_ ?_; kernel_rfl; kernel_rfl; conv => whnf) | (refine callq_eq (hus) hC hasBody_9 ?_ ?_ ?_; kernel_rfl; kernel_rfl; conv => whnf) | (refine call_eq (hof) hC hasBody_19 ?_ ?_ ?_; kernel_rfl; kernel_rfl; conv => whnf) | (refine callq_eq (hof) hC hasBody_19 ?_ ?_ ?_; kernel_rfl; kernel_rfl; conv => whnf) | (refine ask (Nat.le_refl 1) ?_; conv => whnf) | (refine ask ⟨?_, ?_, ?_⟩ ?_; omega; (show _ + 1 ≤ 9223372036854775807; omega); (show (_ + 1) * 32 ≤ 140737488355328; omega); conv => whnf) | (refine draw_lex hE ?_ ?_; decide +kernel; conv => whnf) | (refine draw_any hE [⟨1, [(0, none), (1, none), (2, none), (3, none), (4, none), (5, none), (6, none), (7, none), (8, none), (9, none), (10, some 0)], some 11, [], [[]]⟩] ?_ ?_; decide +kernel; conv => whnf) | (refine brd (fun h => ?_) (fun h => ?_) <;> conv => whnf) | (refine br (fun h => ?_) (fun h => ?_) <;> conv => whnf) | (refine ret_now hE ?_; conv => whnf) | (intro hlen; conv => whnf) | (refine seg_here ?_; conv => whnf) | (refine both ?_ ?_ <;> conv => whnf))
          refine next_drop [0, 1, 7, 10, 15, 16, 17, 32, 33, 34] [4, 5] (j + 1) (show j + 1 ≤ a.length by omega) (show a.length - (j + 1) < a.length - j by omega) ?_
          conv => whnf
          simp only [e5, e6, hkn, hka]
          rfl
      · have hja2 : j = a.length := by omega
        have hKA := keepA_all N S a
        rw [← hja2] at hKA
        rw [← hKA] at hst
        generalize fltF (badA N S) a j = K at hst hfl hfm ⊢
        have hnK : nrL (killL 0 (K.map attA)) := by rw [kill_nrL 0 (nr_atts K)]; exact nr_atts K
        have hadd : killL 4 (killL 2 (killL 1 (frzL 3 (killL 0 (K.map attA)) (killL 0 (List.take (linkL N S (l.take k)).length (List.drop 0 (nodesL (linkL N S (l.take k)))) ++ List.take 1 (List.drop 0 [V.agg [.str n, .sl 3 0 K.length, .str t, .lst (nodesL (linkL N S ps))]])))))) = nodesL (linkL N S (l.take (k + 1))) := by
          have e : List.take 1 (List.drop 0 [V.agg [.str n, .sl 3 0 K.length, .str t, .lst (nodesL (linkL N S ps))]]) = [V.agg [.str n, .sl 3 0 K.length, .str t, .lst (nodesL (linkL N S ps))]] := rfl
          have e2 : killL 0 [V.agg [.str n, .sl 3 0 K.length, .str t, .lst (nodesL (linkL N S ps))]] = [V.agg [.str n, .sl 3 0 K.length, .str t, .lst (nodesL (linkL N S ps))]] := rfl
          rw [htk2, e, killL_app, e2, kill_nrL 0 (nr_atts K), hkn, frzL_app, frz_nrL _ _ (nodesL_nr _), frz_nd, ← hst, kill_nrL 1 (nodesL_nr _), kill_nrL 2 (nodesL_nr _), kill_nrL 4 (nodesL_nr _)]
        have hlen1 : (linkL N S (l.take k)).length + (List.take 1 (List.drop 0 [V.agg [.str n, .sl 3 0 K.length, .str t, .lst (nodesL (linkL N S ps))]])).length = (linkL N S (l.take (k + 1))).length := by rw [hl2]; rfl
        conv => whnf
        repeat' (first | (refine brd_t (by first | assumption | omega) ?_; conv => whnf) | (refine brd_f (by first | assumption | omega) ?_; conv => whnf) | (refine ask (by first | assumption | omega) ?_; conv => whnf) | (refine fit64 (by omega) ?_; conv => whnf) | (refine fit (by simp only [kmin, kmax]; omega) ?_; conv => whnf) | (refine br_t (by assumption) ?_; conv => whnf) | (refine br_f (by assumption) ?_; conv => whnf) | (refine get_of (by assumption) ?_; conv => whnf) | (refine get_map (by assumption) ?_; conv => whnf) | (refine ask (Nat.le_refl 1) ?_; conv => whnf) | (refine ask ⟨?_, ?_, ?_⟩ ?_; omega; (show _ + 1 ≤ 9223372036854775807; omega); (show (_ + 1) * 80 ≤ 140737488355328; omega); conv => whnf) | (refine draw_lex hE ?_ ?_; decide +kernel; conv => whnf) | (refine draw_any hE [⟨1, [(0, none), (1, none), (2, none), (3, none), (4, none), (5, none), (6, none), (7, none), (8, none), (9, none), (10, some 0)], some 11, [], [[]]⟩] ?_ ?_; decide +kernel; conv => whnf) | (refine brd (fun h => ?_) (fun h => ?_) <;> conv => whnf) | (refine br (fun h => ?_) (fun h => ?_) <;> conv => whnf) | (refine ret_now hE ?_; conv => whnf) | (intro hlen; conv => whnf) | (refine seg_here ?_; conv => whnf) | (refine both ?_ ?_ <;> conv => whnf))
        refine up_freeze 3 (z := 2) (els := killL 0 (K.map attA)) rfl hnK (next_drop [0, 1, 7, 15, 16, 17] [1, 2, 4] (k + 1) (show k + 1 ≤ l.length by omega) (show l.length - (k + 1) < l.length - k by omega) ?_)
        conv => whnf
        rw [hadd, hlen1]
        rfl
    · have hkl : k = l.length := by have : k ≤ l.length := hk; omega
      have htl : l.take k = l := List.take_of_length_le (by omega)
      have hnl := nodesL_length (linkL N S l)
      rw [htl]
      conv => whnf
      repeat' (first | (refine brd_t (by first | assumption | omega) ?_; conv => whnf) | (refine brd_f (by first | assumption | omega) ?_; conv => whnf) | (refine ask (by first | assumption | omega) ?_; conv => whnf) | (refine fit64 (by omega) ?_; conv => whnf) | (refine fit (by simp only [kmin, kmax]; omega) ?_; conv => whnf) | (refine br_t (by assumption) ?_; conv => whnf) | (refine br_f (by assumption) ?_; conv => whnf) | (refine get_of (by assumption) ?_; conv => whnf) | (refine get_map (by assumption) ?_; conv => whnf) | (refine ret_up (up_frzK 0 6 [] rfl (nodesL_nr _) rfl ?_ rfl (up_here ?_)); (exact hnl.symm)) | (refine draw_lex hE ?_ ?_; decide +kernel; conv => whnf) | (refine draw_any hE [⟨1, [(0, none), (1, none), (2, none), (3, none), (4, none), (5, none), (6, none), (7, none), (8, none), (9, none), (10, some 0)], some 11, [], [[]]⟩] ?_ ?_; decide +kernel; conv => whnf) | (refine brd (fun h => ?_) (fun h => ?_) <;> conv => whnf) | (refine br (fun h => ?_) (fun h => ?_) <;> conv => whnf) | (refine ret_now hE ?_; conv => whnf) | (intro hlen; conv => whnf) | (refine seg_here ?_; conv => whnf) | (refine both ?_ ?_ <;> conv => whnf))
      all_goals exact ⟨rfl, rfl⟩
end Go.Proofs.YtkkcmobnhiiacaaGreatDoor

/-! rules.Links; the document's RulesLinks; both walked; the law. No conditions. -/
namespace Go.Proofs.YtkkcmobnhiiacaaGreatDoor
open Go.RowKit

def linkV (N S : List (List UInt8)) (l : List Nd) : V := if 40 < N.length then .tup [.lst [], .int .i64 1] else if codeS S ≠ 0 then .tup [.lst [], .int .i64 (codeS S)] else .tup [.lst (nodesL (linkL N S l)), .int .i64 0]
theorem codeS_cases (S : List (List UInt8)) : codeS S = 0 ∨ codeS S = 1 ∨ codeS S = 4 := by unfold codeS; split; exact .inr (.inl rfl); split; exact .inr (.inr rfl); exact .inl rfl
theorem rules_links (N S : List (List UInt8)) (hS : Strs S) (l : List Nd) (hl : vL l) : Fn1 Tryz.prog 4 [.lst (N.map V.str), .lst (S.map V.str), .lst (nodesL l)] (fun r => r = linkV N S l) := by
  have h1 := url_schemes S hS
  have h2 := rules_linked N S _ l (Nat.le_refl _) hl
  have hNm : (N.map V.str).length = N.length := by simp
  unfold linkV
  refine fn1_nl ?_
  by_cases h40 : 40 < N.length
  · rw [if_pos h40]
    refine fn1E (T := Tryz.tt) Tryz.func4 rfl tt_all follows_all ?_ ?_ fun C hC hE => ?_
    · kernel_rfl
    · exact Nat.le_of_ble_eq_true (by kernel_rfl)
    conv => whnf
    repeat' (first | (refine brd_t (by first | assumption | omega) ?_; conv => whnf) | (refine brd_f (by first | assumption | omega) ?_; conv => whnf) | (refine ask (by first | assumption | omega) ?_; conv => whnf) | (refine fit64 (by omega) ?_; conv => whnf) | (refine fit (by simp only [kmin, kmax]; omega) ?_; conv => whnf) | (refine br_t (by assumption) ?_; conv => whnf) | (refine br_f (by assumption) ?_; conv => whnf) | (refine get_of (by assumption) ?_; conv => whnf) | (refine get_map (by assumption) ?_; conv => whnf) | (refine draw_lex hE ?_ ?_; decide +kernel; conv => whnf) | (refine brd (fun h => ?_) (fun h => ?_) <;> conv => whnf) | (refine br (fun h => ?_) (fun h => ?_) <;> conv => whnf) | (refine ret_now hE ?_; conv => whnf) | (intro hlen; conv => whnf) | (refine seg_here ?_; conv => whnf) | (refine both ?_ ?_ <;> conv => whnf))
    all_goals exact ⟨rfl, by simp [V.nl, nlL, nl_nodes]⟩
  · rw [if_neg h40]
    rcases codeS_cases S with hc | hc | hc
    · rw [hc] at h1
      rw [if_neg (by simp [hc])]
      refine fn1E (T := Tryz.tt) Tryz.func4 rfl tt_all follows_all ?_ ?_ fun C hC hE => ?_
      · kernel_rfl
      · exact Nat.le_of_ble_eq_true (by kernel_rfl)
      conv => whnf
      repeat' (first | (refine brd_t (by first | assumption | omega) ?_; conv => whnf) | (refine brd_f (by first | assumption | omega) ?_; conv => whnf) | (refine ask (by first | assumption | omega) ?_; conv => whnf) | (refine fit64 (by omega) ?_; conv => whnf) | (refine fit (by simp only [kmin, kmax]; omega) ?_; conv => whnf) | (refine br_t (by assumption) ?_; conv => whnf) | (refine br_f (by assumption) ?_; conv => whnf) | (refine get_of (by assumption) ?_; conv => whnf) | (refine get_map (by assumption) ?_; conv => whnf) | (refine call_eq (h1) hC hasBody_7 ?_ ?_ ?_; kernel_rfl; kernel_rfl; conv => whnf) | (refine callq_eq (h1) hC hasBody_7 ?_ ?_ ?_; kernel_rfl; kernel_rfl; conv => whnf) | (refine call_eq (h2) hC hasBody_8 ?_ ?_ ?_; kernel_rfl; kernel_rfl; conv => whnf) | (refine callq_eq (h2) hC hasBody_8 ?_ ?_ ?_; kernel_rfl; kernel_rfl; conv => whnf) | (refine draw_lex hE ?_ ?_; decide +kernel; conv => whnf) | (refine brd (fun h => ?_) (fun h => ?_) <;> conv => whnf) | (refine br (fun h => ?_) (fun h => ?_) <;> conv => whnf) | (refine ret_now hE ?_; conv => whnf) | (intro hlen; conv => whnf) | (refine seg_here ?_; conv => whnf) | (refine both ?_ ?_ <;> conv => whnf))
      all_goals exact ⟨rfl, by simp [V.nl, nlL, nl_nodes]⟩
    all_goals
      rw [hc] at h1
      rw [if_pos (by simp [hc]), hc]
      refine fn1E (T := Tryz.tt) Tryz.func4 rfl tt_all follows_all ?_ ?_ fun C hC hE => ?_
      · kernel_rfl
      · exact Nat.le_of_ble_eq_true (by kernel_rfl)
      conv => whnf
      repeat' (first | (refine brd_t (by first | assumption | omega) ?_; conv => whnf) | (refine brd_f (by first | assumption | omega) ?_; conv => whnf) | (refine ask (by first | assumption | omega) ?_; conv => whnf) | (refine fit64 (by omega) ?_; conv => whnf) | (refine fit (by simp only [kmin, kmax]; omega) ?_; conv => whnf) | (refine br_t (by assumption) ?_; conv => whnf) | (refine br_f (by assumption) ?_; conv => whnf) | (refine get_of (by assumption) ?_; conv => whnf) | (refine get_map (by assumption) ?_; conv => whnf) | (refine call_eq (h1) hC hasBody_7 ?_ ?_ ?_; kernel_rfl; kernel_rfl; conv => whnf) | (refine callq_eq (h1) hC hasBody_7 ?_ ?_ ?_; kernel_rfl; kernel_rfl; conv => whnf) | (refine draw_lex hE ?_ ?_; decide +kernel; conv => whnf) | (refine brd (fun h => ?_) (fun h => ?_) <;> conv => whnf) | (refine br (fun h => ?_) (fun h => ?_) <;> conv => whnf) | (refine ret_now hE ?_; conv => whnf) | (intro hlen; conv => whnf) | (refine seg_here ?_; conv => whnf) | (refine both ?_ ?_ <;> conv => whnf))
      all_goals exact ⟨rfl, by simp [V.nl, nlL, nl_nodes]⟩
theorem ref_links (N S : List (List UInt8)) (hS : Strs S) (l : List Nd) (hl : vL l) : Fn1 Tryz.prog 5 [.lst (N.map V.str), .lst (S.map V.str), .lst (nodesL l)] (fun r => r = linkV N S l) := by
  have h1 := ref_safe [] S (Nat.zero_le _) hS
  have hNm : (N.map V.str).length = N.length := by simp
  unfold linkV
  refine fn1_nl ?_
  by_cases h40 : 40 < N.length
  · rw [if_pos h40]
    refine fn1E (T := Tryz.tt) Tryz.func5 rfl tt_all follows_all ?_ ?_ fun C hC hE => ?_
    · kernel_rfl
    · exact Nat.le_of_ble_eq_true (by kernel_rfl)
    conv => whnf
    repeat' (first | (refine brd_t (by first | assumption | omega) ?_; conv => whnf) | (refine brd_f (by first | assumption | omega) ?_; conv => whnf) | (refine ask (by first | assumption | omega) ?_; conv => whnf) | (refine fit64 (by omega) ?_; conv => whnf) | (refine fit (by simp only [kmin, kmax]; omega) ?_; conv => whnf) | (refine br_t (by assumption) ?_; conv => whnf) | (refine br_f (by assumption) ?_; conv => whnf) | (refine get_of (by assumption) ?_; conv => whnf) | (refine get_map (by assumption) ?_; conv => whnf) | (refine draw_lex hE ?_ ?_; decide +kernel; conv => whnf) | (refine brd (fun h => ?_) (fun h => ?_) <;> conv => whnf) | (refine br (fun h => ?_) (fun h => ?_) <;> conv => whnf) | (refine ret_now hE ?_; conv => whnf) | (intro hlen; conv => whnf) | (refine seg_here ?_; conv => whnf) | (refine both ?_ ?_ <;> conv => whnf))
    all_goals exact ⟨rfl, by simp [V.nl, nlL, nl_nodes]⟩
  · rw [if_neg h40]
    obtain ⟨b, hb⟩ : ∃ b, (decide (codeS S = 0) && ofS [] S) = b := ⟨_, rfl⟩
    rw [hb] at h1
    rcases codeS_cases S with hc | hc | hc
    · have h2 := ref_linked N S hS hc _ l (Nat.le_refl _) hl
      rw [hc] at h1
      rw [if_neg (by simp [hc])]
      cases b
      all_goals
        refine fn1E (T := Tryz.tt) Tryz.func5 rfl tt_all follows_all ?_ ?_ fun C hC hE => ?_
        · kernel_rfl
        · exact Nat.le_of_ble_eq_true (by kernel_rfl)
        conv => whnf
        repeat' (first | (refine brd_t (by first | assumption | omega) ?_; conv => whnf) | (refine brd_f (by first | assumption | omega) ?_; conv => whnf) | (refine ask (by first | assumption | omega) ?_; conv => whnf) | (refine fit64 (by omega) ?_; conv => whnf) | (refine fit (by simp only [kmin, kmax]; omega) ?_; conv => whnf) | (refine br_t (by assumption) ?_; conv => whnf) | (refine br_f (by assumption) ?_; conv => whnf) | (refine get_of (by assumption) ?_; conv => whnf) | (refine get_map (by assumption) ?_; conv => whnf) | (refine call_eq (h1) hC hasBody_9 ?_ ?_ ?_; kernel_rfl; kernel_rfl; conv => whnf) | (refine callq_eq (h1) hC hasBody_9 ?_ ?_ ?_; kernel_rfl; kernel_rfl; conv => whnf) | (refine call_eq (h2) hC hasBody_10 ?_ ?_ ?_; kernel_rfl; kernel_rfl; conv => whnf) | (refine callq_eq (h2) hC hasBody_10 ?_ ?_ ?_; kernel_rfl; kernel_rfl; conv => whnf) | (refine draw_lex hE ?_ ?_; decide +kernel; conv => whnf) | (refine brd (fun h => ?_) (fun h => ?_) <;> conv => whnf) | (refine br (fun h => ?_) (fun h => ?_) <;> conv => whnf) | (refine ret_now hE ?_; conv => whnf) | (intro hlen; conv => whnf) | (refine seg_here ?_; conv => whnf) | (refine both ?_ ?_ <;> conv => whnf))
        all_goals exact ⟨rfl, by simp [V.nl, nlL, nl_nodes]⟩
    all_goals
      rw [hc] at h1
      rw [if_pos (by simp [hc]), hc]
      cases b
      all_goals
        refine fn1E (T := Tryz.tt) Tryz.func5 rfl tt_all follows_all ?_ ?_ fun C hC hE => ?_
        · kernel_rfl
        · exact Nat.le_of_ble_eq_true (by kernel_rfl)
        conv => whnf
        repeat' (first | (refine brd_t (by first | assumption | omega) ?_; conv => whnf) | (refine brd_f (by first | assumption | omega) ?_; conv => whnf) | (refine ask (by first | assumption | omega) ?_; conv => whnf) | (refine fit64 (by omega) ?_; conv => whnf) | (refine fit (by simp only [kmin, kmax]; omega) ?_; conv => whnf) | (refine br_t (by assumption) ?_; conv => whnf) | (refine br_f (by assumption) ?_; conv => whnf) | (refine get_of (by assumption) ?_; conv => whnf) | (refine get_map (by assumption) ?_; conv => whnf) | (refine call_eq (h1) hC hasBody_9 ?_ ?_ ?_; kernel_rfl; kernel_rfl; conv => whnf) | (refine callq_eq (h1) hC hasBody_9 ?_ ?_ ?_; kernel_rfl; kernel_rfl; conv => whnf) | (refine draw_lex hE ?_ ?_; decide +kernel; conv => whnf) | (refine brd (fun h => ?_) (fun h => ?_) <;> conv => whnf) | (refine br (fun h => ?_) (fun h => ?_) <;> conv => whnf) | (refine ret_now hE ?_; conv => whnf) | (intro hlen; conv => whnf) | (refine seg_here ?_; conv => whnf) | (refine both ?_ ?_ <;> conv => whnf))
        all_goals exact ⟨rfl, by simp [V.nl, nlL, nl_nodes]⟩
theorem rulesLinks_law (N : List (List UInt8)) (_ : Strs N) (S : List (List UInt8)) (hS : Strs S) (l : List Nd) (hl : vL l) : Fn1G Tryz.prog (fun _ => True) 3 [.lst (N.map V.str), .lst (S.map V.str), .lst (nodesL l)] (fun r => r = .bool true) := by
  have h1 := rules_links N S hS l hl
  have h2 := ref_links N S hS l hl
  unfold linkV at h1 h2
  have h3 := same_nodes 0 [] (Nat.le_refl _)
  have h4 := same_nodes _ (linkL N S l) (Nat.le_refl _)
  simp only [nodesL] at h3
  by_cases h40 : 40 < N.length
  · rw [if_pos h40] at h1 h2
    refine fn1GE (T := Tryz.tt) Tryz.func3 rfl tt_all follows_all ?_ ?_ fun C hC hW hG hE => ?_
    · kernel_rfl
    · exact Nat.le_of_ble_eq_true (by kernel_rfl)
    conv => whnf
    repeat' (first | (refine brd_t (by first | assumption | omega) ?_; conv => whnf) | (refine brd_f (by first | assumption | omega) ?_; conv => whnf) | (refine ask (by first | assumption | omega) ?_; conv => whnf) | (refine fit64 (by omega) ?_; conv => whnf) | (refine fit (by simp only [kmin, kmax]; omega) ?_; conv => whnf) | (refine br_t (by assumption) ?_; conv => whnf) | (refine br_f (by assumption) ?_; conv => whnf) | (refine get_of (by assumption) ?_; conv => whnf) | (refine get_map (by assumption) ?_; conv => whnf) | (refine call_eq (h1) hC hasBody_4 ?_ ?_ ?_; kernel_rfl; kernel_rfl; conv => whnf) | (refine callq_eq (h1) hC hasBody_4 ?_ ?_ ?_; kernel_rfl; kernel_rfl; conv => whnf) | (refine call_eq (h2) hC hasBody_5 ?_ ?_ ?_; kernel_rfl; kernel_rfl; conv => whnf) | (refine callq_eq (h2) hC hasBody_5 ?_ ?_ ?_; kernel_rfl; kernel_rfl; conv => whnf) | (refine call_eq (h3) hC hasBody_6 ?_ ?_ ?_; kernel_rfl; kernel_rfl; conv => whnf) | (refine callq_eq (h3) hC hasBody_6 ?_ ?_ ?_; kernel_rfl; kernel_rfl; conv => whnf) | (refine brd_t rfl ?_; conv => whnf) | (refine draw_lex hE ?_ ?_; decide +kernel; conv => whnf) | (refine brd (fun h => ?_) (fun h => ?_) <;> conv => whnf) | (refine br (fun h => ?_) (fun h => ?_) <;> conv => whnf) | (refine ret_now hE ?_; conv => whnf) | (intro hlen; conv => whnf) | (refine seg_here ?_; conv => whnf) | (refine both ?_ ?_ <;> conv => whnf))
    all_goals exact ⟨rfl, rfl⟩
  · rw [if_neg h40] at h1 h2
    by_cases hc : codeS S ≠ 0
    · rw [if_pos hc] at h1 h2
      refine fn1GE (T := Tryz.tt) Tryz.func3 rfl tt_all follows_all ?_ ?_ fun C hC hW hG hE => ?_
      · kernel_rfl
      · exact Nat.le_of_ble_eq_true (by kernel_rfl)
      conv => whnf
      repeat' (first | (refine brd_t (by first | assumption | omega) ?_; conv => whnf) | (refine brd_f (by first | assumption | omega) ?_; conv => whnf) | (refine ask (by first | assumption | omega) ?_; conv => whnf) | (refine fit64 (by omega) ?_; conv => whnf) | (refine fit (by simp only [kmin, kmax]; omega) ?_; conv => whnf) | (refine br_t (by assumption) ?_; conv => whnf) | (refine br_f (by assumption) ?_; conv => whnf) | (refine get_of (by assumption) ?_; conv => whnf) | (refine get_map (by assumption) ?_; conv => whnf) | (refine call_eq (h1) hC hasBody_4 ?_ ?_ ?_; kernel_rfl; kernel_rfl; conv => whnf) | (refine callq_eq (h1) hC hasBody_4 ?_ ?_ ?_; kernel_rfl; kernel_rfl; conv => whnf) | (refine call_eq (h2) hC hasBody_5 ?_ ?_ ?_; kernel_rfl; kernel_rfl; conv => whnf) | (refine callq_eq (h2) hC hasBody_5 ?_ ?_ ?_; kernel_rfl; kernel_rfl; conv => whnf) | (refine call_eq (h3) hC hasBody_6 ?_ ?_ ?_; kernel_rfl; kernel_rfl; conv => whnf) | (refine callq_eq (h3) hC hasBody_6 ?_ ?_ ?_; kernel_rfl; kernel_rfl; conv => whnf) | (refine brd_t rfl ?_; conv => whnf) | (refine draw_lex hE ?_ ?_; decide +kernel; conv => whnf) | (refine brd (fun h => ?_) (fun h => ?_) <;> conv => whnf) | (refine br (fun h => ?_) (fun h => ?_) <;> conv => whnf) | (refine ret_now hE ?_; conv => whnf) | (intro hlen; conv => whnf) | (refine seg_here ?_; conv => whnf) | (refine both ?_ ?_ <;> conv => whnf))
      all_goals exact ⟨rfl, rfl⟩
    · rw [if_neg hc] at h1 h2
      refine fn1GE (T := Tryz.tt) Tryz.func3 rfl tt_all follows_all ?_ ?_ fun C hC hW hG hE => ?_
      · kernel_rfl
      · exact Nat.le_of_ble_eq_true (by kernel_rfl)
      conv => whnf
      repeat' (first | (refine brd_t (by first | assumption | omega) ?_; conv => whnf) | (refine brd_f (by first | assumption | omega) ?_; conv => whnf) | (refine ask (by first | assumption | omega) ?_; conv => whnf) | (refine fit64 (by omega) ?_; conv => whnf) | (refine fit (by simp only [kmin, kmax]; omega) ?_; conv => whnf) | (refine br_t (by assumption) ?_; conv => whnf) | (refine br_f (by assumption) ?_; conv => whnf) | (refine get_of (by assumption) ?_; conv => whnf) | (refine get_map (by assumption) ?_; conv => whnf) | (refine call_eq (h1) hC hasBody_4 ?_ ?_ ?_; kernel_rfl; kernel_rfl; conv => whnf) | (refine callq_eq (h1) hC hasBody_4 ?_ ?_ ?_; kernel_rfl; kernel_rfl; conv => whnf) | (refine call_eq (h2) hC hasBody_5 ?_ ?_ ?_; kernel_rfl; kernel_rfl; conv => whnf) | (refine callq_eq (h2) hC hasBody_5 ?_ ?_ ?_; kernel_rfl; kernel_rfl; conv => whnf) | (refine call_eq (h4) hC hasBody_6 ?_ ?_ ?_; kernel_rfl; kernel_rfl; conv => whnf) | (refine callq_eq (h4) hC hasBody_6 ?_ ?_ ?_; kernel_rfl; kernel_rfl; conv => whnf) | (refine brd_t rfl ?_; conv => whnf) | (refine draw_lex hE ?_ ?_; decide +kernel; conv => whnf) | (refine brd (fun h => ?_) (fun h => ?_) <;> conv => whnf) | (refine br (fun h => ?_) (fun h => ?_) <;> conv => whnf) | (refine ret_now hE ?_; conv => whnf) | (intro hlen; conv => whnf) | (refine seg_here ?_; conv => whnf) | (refine both ?_ ?_ <;> conv => whnf))
      all_goals exact ⟨rfl, rfl⟩
end Go.Proofs.YtkkcmobnhiiacaaGreatDoor
