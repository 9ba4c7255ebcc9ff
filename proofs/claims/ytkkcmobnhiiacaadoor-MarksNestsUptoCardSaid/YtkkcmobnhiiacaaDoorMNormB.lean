/- marks.Norm, and the law MarksNorms. No conditions. -/
import Derived.Test.YtkkcmobnhiiacaaDoorMRef
set_option linter.unusedSimpArgs false
set_option linter.unusedVariables false
set_option maxRecDepth 100000
namespace Go.Proofs.YtkkcmobnhiiacaaDoor
open Go.RowKit

theorem fn1G_nl {P : Program} {G : World → Prop} {f : FuncId} {args : List V} {R : V → Prop} (h : Fn1G P G f args fun r => R r.nl) : Fn1G P G f args R :=
  fun w I vs h0 h1 h2 h3 => (h w I vs h0 h1 h2 h3).mono fun _ _ ⟨v, r, I', a, b, c, d⟩ => ⟨v, r.nl, I', a, b, c.nl, d⟩
def faultC (L : List (List UInt8)) (l : List Rn) : Int := if marksCode L = 0 then (if 60 < l.length then 1 else 0) else marksCode L
theorem marks_fault0 (L : List (List UInt8)) (l : List Rn) : Fn1G Tryd.prog GA 50 [.lst (L.map V.str), .lst (l.map rnA)] (fun r => r = .int .i64 (faultC L l)) := by
  have hlm : (l.map rnA).length = l.length := by simp
  have hck := marks_check L
  obtain ⟨c, hc⟩ : ∃ c, marksCode L = c := ⟨_, rfl⟩
  have hd : faultC L l = if c = 0 then (if 60 < l.length then 1 else 0) else c := by unfold faultC; rw [hc]
  rw [hc] at hck
  rw [hd]
  clear hd hc
  by_cases hc0 : c = 0
  · subst hc0
    refine fn1GE (T := Tryd.tt) Tryd.func50 rfl tt_all follows_all ?_ ?_ fun C hC hW hG hE => ?_
    · kernel_rfl
    · exact Nat.le_of_ble_eq_true (by kernel_rfl)
    conv => whnf
    have hk := hck.c hC hW kept_ga hG
    repeat' (first | (refine brd_t (by first | assumption | omega) ?_; conv => whnf) | (refine brd_f (by first | assumption | omega) ?_; conv => whnf) | (refine ask (by first | assumption | omega) ?_; conv => whnf) | (refine fit64 (by omega) ?_; conv => whnf) | (refine fit (by simp only [kmin, kmax]; omega) ?_; conv => whnf) | (refine br_t (by assumption) ?_; conv => whnf) | (refine br_f (by assumption) ?_; conv => whnf) | (refine get_of (by assumption) ?_; conv => whnf) | (refine get_map (by assumption) ?_; conv => whnf) | (refine callc_eq (hk) hC hasBody_77 rfl ?_ ?_ ?_; kernel_rfl; kernel_rfl; conv => whnf) | (refine callcq_eq (hk) hC hasBody_77 rfl ?_ ?_ ?_; kernel_rfl; kernel_rfl; conv => whnf) | (refine brd_f (fun h => absurd rfl h) ?_; conv => whnf) | (refine draw_lex hE ?_ ?_; decide +kernel; conv => whnf) | (refine brd (fun h => ?_) (fun h => ?_) <;> conv => whnf) | (refine br (fun h => ?_) (fun h => ?_) <;> conv => whnf) | (refine ret_now hE ?_; conv => whnf) | (intro hlen; conv => whnf) | (refine seg_here ?_; conv => whnf) | (refine both ?_ ?_ <;> conv => whnf))
    · exact ⟨rfl, by rw [if_pos rfl, if_pos (by omega)]⟩
    · exact ⟨rfl, by rw [if_pos rfl, if_neg (by omega)]⟩
  · refine fn1GE (T := Tryd.tt) Tryd.func50 rfl tt_all follows_all ?_ ?_ fun C hC hW hG hE => ?_
    · kernel_rfl
    · exact Nat.le_of_ble_eq_true (by kernel_rfl)
    conv => whnf
    have hk := hck.c hC hW kept_ga hG
    repeat' (first | (refine brd_t (by first | assumption | omega) ?_; conv => whnf) | (refine brd_f (by first | assumption | omega) ?_; conv => whnf) | (refine ask (by first | assumption | omega) ?_; conv => whnf) | (refine fit64 (by omega) ?_; conv => whnf) | (refine fit (by simp only [kmin, kmax]; omega) ?_; conv => whnf) | (refine br_t (by assumption) ?_; conv => whnf) | (refine br_f (by assumption) ?_; conv => whnf) | (refine get_of (by assumption) ?_; conv => whnf) | (refine get_map (by assumption) ?_; conv => whnf) | (refine callc_eq (hk) hC hasBody_77 rfl ?_ ?_ ?_; kernel_rfl; kernel_rfl; conv => whnf) | (refine callcq_eq (hk) hC hasBody_77 rfl ?_ ?_ ?_; kernel_rfl; kernel_rfl; conv => whnf) | (refine draw_lex hE ?_ ?_; decide +kernel; conv => whnf) | (refine brd (fun h => ?_) (fun h => ?_) <;> conv => whnf) | (refine br (fun h => ?_) (fun h => ?_) <;> conv => whnf) | (refine ret_now hE ?_; conv => whnf) | (intro hlen; conv => whnf) | (refine seg_here ?_; conv => whnf) | (refine both ?_ ?_ <;> conv => whnf))
    exact ⟨rfl, by rw [if_neg hc0]⟩
theorem normV_nl (L : List (List UInt8)) (l : List Rn) : (normV L l).nl = normV L l := by
  unfold normV
  split
  · simp [V.nl, nlL, nl_rnL]
  · simp [V.nl, nlL]
theorem marks_Norm (L : List (List UInt8)) (l : List Rn) (hs : sumT l ≤ 1048576) : Fn1G Tryd.prog GA 18 [.lst (L.map V.str), .lst (l.map rnA)] (fun r => r = refN L l) := by
  have hfa := marks_fault0 L l
  refine fn1G_nl ?_
  by_cases hc : marksCode L = 0
  · by_cases h60 : 60 < l.length
    · have e : faultC L l = 1 := by unfold faultC; rw [if_pos hc, if_pos h60]
      rw [e] at hfa
      refine fn1GE (T := Tryd.tt) Tryd.func18 rfl tt_all follows_all ?_ ?_ fun C hC hW hG hE => ?_
      · kernel_rfl
      · exact Nat.le_of_ble_eq_true (by kernel_rfl)
      conv => whnf
      have hk := hfa.c hC hW kept_ga hG
      repeat' (first | (refine brd_t (by first | assumption | omega) ?_; conv => whnf) | (refine brd_f (by first | assumption | omega) ?_; conv => whnf) | (refine ask (by first | assumption | omega) ?_; conv => whnf) | (refine fit64 (by omega) ?_; conv => whnf) | (refine fit (by simp only [kmin, kmax]; omega) ?_; conv => whnf) | (refine br_t (by assumption) ?_; conv => whnf) | (refine br_f (by assumption) ?_; conv => whnf) | (refine get_of (by assumption) ?_; conv => whnf) | (refine get_map (by assumption) ?_; conv => whnf) | (refine callc_eq (hk) hC hasBody_50 rfl ?_ ?_ ?_; kernel_rfl; kernel_rfl; conv => whnf) | (refine callcq_eq (hk) hC hasBody_50 rfl ?_ ?_ ?_; kernel_rfl; kernel_rfl; conv => whnf) | (refine draw_lex hE ?_ ?_; decide +kernel; conv => whnf) | (refine brd (fun h => ?_) (fun h => ?_) <;> conv => whnf) | (refine br (fun h => ?_) (fun h => ?_) <;> conv => whnf) | (refine ret_now hE ?_; conv => whnf) | (intro hlen; conv => whnf) | (refine seg_here ?_; conv => whnf) | (refine both ?_ ?_ <;> conv => whnf))
      refine ⟨rfl, ?_⟩
      unfold refN
      rw [if_pos hc, if_pos h60]
      rfl
    · have e : faultC L l = 0 := by unfold faultC; rw [if_pos hc, if_neg h60]
      rw [e] at hfa
      have hr : refN L l = normV L l := by unfold refN; rw [if_pos hc, if_neg h60]
      have hm := marks_norm L l (marks_good hc).1 (by omega) hs
      rw [hr, ← normV_nl]
      by_cases hok : l.all (okR L) = true
      · have e2 : normV L l = .tup [.lst ((normL L l).map rnA), .int .i64 0] := if_pos hok
        rw [e2] at hm ⊢
        refine fn1GE (T := Tryd.tt) Tryd.func18 rfl tt_all follows_all ?_ ?_ fun C hC hW hG hE => ?_
        · kernel_rfl
        · exact Nat.le_of_ble_eq_true (by kernel_rfl)
        conv => whnf
        have hk := hfa.c hC hW kept_ga hG
        repeat' (first | (refine brd_t (by first | assumption | omega) ?_; conv => whnf) | (refine brd_f (by first | assumption | omega) ?_; conv => whnf) | (refine ask (by first | assumption | omega) ?_; conv => whnf) | (refine fit64 (by omega) ?_; conv => whnf) | (refine fit (by simp only [kmin, kmax]; omega) ?_; conv => whnf) | (refine br_t (by assumption) ?_; conv => whnf) | (refine br_f (by assumption) ?_; conv => whnf) | (refine get_of (by assumption) ?_; conv => whnf) | (refine get_map (by assumption) ?_; conv => whnf) | (refine callc_eq (hk) hC hasBody_50 rfl ?_ ?_ ?_; kernel_rfl; kernel_rfl; conv => whnf) | (refine callcq_eq (hk) hC hasBody_50 rfl ?_ ?_ ?_; kernel_rfl; kernel_rfl; conv => whnf) | (refine brd_f (fun h => absurd rfl h) ?_; conv => whnf) | (refine call_eq (hm) hC hasBody_51 ?_ ?_ ?_; kernel_rfl; kernel_rfl; conv => whnf) | (refine callq_eq (hm) hC hasBody_51 ?_ ?_ ?_; kernel_rfl; kernel_rfl; conv => whnf) | (refine draw_lex hE ?_ ?_; decide +kernel; conv => whnf) | (refine brd (fun h => ?_) (fun h => ?_) <;> conv => whnf) | (refine br (fun h => ?_) (fun h => ?_) <;> conv => whnf) | (refine ret_now hE ?_; conv => whnf) | (intro hlen; conv => whnf) | (refine seg_here ?_; conv => whnf) | (refine both ?_ ?_ <;> conv => whnf))
        exact ⟨rfl, rfl⟩
      · have e2 : normV L l = .tup [.lst [], .int .i64 5] := if_neg hok
        rw [e2] at hm ⊢
        refine fn1GE (T := Tryd.tt) Tryd.func18 rfl tt_all follows_all ?_ ?_ fun C hC hW hG hE => ?_
        · kernel_rfl
        · exact Nat.le_of_ble_eq_true (by kernel_rfl)
        conv => whnf
        have hk := hfa.c hC hW kept_ga hG
        repeat' (first | (refine brd_t (by first | assumption | omega) ?_; conv => whnf) | (refine brd_f (by first | assumption | omega) ?_; conv => whnf) | (refine ask (by first | assumption | omega) ?_; conv => whnf) | (refine fit64 (by omega) ?_; conv => whnf) | (refine fit (by simp only [kmin, kmax]; omega) ?_; conv => whnf) | (refine br_t (by assumption) ?_; conv => whnf) | (refine br_f (by assumption) ?_; conv => whnf) | (refine get_of (by assumption) ?_; conv => whnf) | (refine get_map (by assumption) ?_; conv => whnf) | (refine callc_eq (hk) hC hasBody_50 rfl ?_ ?_ ?_; kernel_rfl; kernel_rfl; conv => whnf) | (refine callcq_eq (hk) hC hasBody_50 rfl ?_ ?_ ?_; kernel_rfl; kernel_rfl; conv => whnf) | (refine brd_f (fun h => absurd rfl h) ?_; conv => whnf) | (refine call_eq (hm) hC hasBody_51 ?_ ?_ ?_; kernel_rfl; kernel_rfl; conv => whnf) | (refine callq_eq (hm) hC hasBody_51 ?_ ?_ ?_; kernel_rfl; kernel_rfl; conv => whnf) | (refine draw_lex hE ?_ ?_; decide +kernel; conv => whnf) | (refine brd (fun h => ?_) (fun h => ?_) <;> conv => whnf) | (refine br (fun h => ?_) (fun h => ?_) <;> conv => whnf) | (refine ret_now hE ?_; conv => whnf) | (intro hlen; conv => whnf) | (refine seg_here ?_; conv => whnf) | (refine both ?_ ?_ <;> conv => whnf))
        exact ⟨rfl, rfl⟩
  · have e : faultC L l = marksCode L := by unfold faultC; rw [if_neg hc]
    rw [e] at hfa
    have hr : refN L l = .tup [.lst [], .int .i64 (marksCode L)] := by unfold refN; rw [if_neg hc]
    rw [hr]
    generalize marksCode L = c at hc hfa
    refine fn1GE (T := Tryd.tt) Tryd.func18 rfl tt_all follows_all ?_ ?_ fun C hC hW hG hE => ?_
    · kernel_rfl
    · exact Nat.le_of_ble_eq_true (by kernel_rfl)
    conv => whnf
    have hk := hfa.c hC hW kept_ga hG
    repeat' (first | (refine brd_t (by first | assumption | omega) ?_; conv => whnf) | (refine brd_f (by first | assumption | omega) ?_; conv => whnf) | (refine ask (by first | assumption | omega) ?_; conv => whnf) | (refine fit64 (by omega) ?_; conv => whnf) | (refine fit (by simp only [kmin, kmax]; omega) ?_; conv => whnf) | (refine br_t (by assumption) ?_; conv => whnf) | (refine br_f (by assumption) ?_; conv => whnf) | (refine get_of (by assumption) ?_; conv => whnf) | (refine get_map (by assumption) ?_; conv => whnf) | (refine callc_eq (hk) hC hasBody_50 rfl ?_ ?_ ?_; kernel_rfl; kernel_rfl; conv => whnf) | (refine callcq_eq (hk) hC hasBody_50 rfl ?_ ?_ ?_; kernel_rfl; kernel_rfl; conv => whnf) | (refine draw_lex hE ?_ ?_; decide +kernel; conv => whnf) | (refine brd (fun h => ?_) (fun h => ?_) <;> conv => whnf) | (refine br (fun h => ?_) (fun h => ?_) <;> conv => whnf) | (refine ret_now hE ?_; conv => whnf) | (intro hlen; conv => whnf) | (refine seg_here ?_; conv => whnf) | (refine both ?_ ?_ <;> conv => whnf))
    exact ⟨rfl, rfl⟩
theorem refN_two (L : List (List UInt8)) (l : List Rn) : ∃ (o : List Rn) (c : Int), refN L l = .tup [.lst (o.map rnA), .int .i64 c] := by
  unfold refN
  split
  · split
    · exact ⟨[], 1, rfl⟩
    · unfold normV
      split
      · exact ⟨_, 0, rfl⟩
      · exact ⟨[], 5, rfl⟩
  · exact ⟨[], _, rfl⟩
end Go.Proofs.YtkkcmobnhiiacaaDoor
