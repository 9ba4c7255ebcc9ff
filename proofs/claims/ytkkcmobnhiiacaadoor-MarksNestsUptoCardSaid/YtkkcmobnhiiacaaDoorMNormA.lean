/- marks.norm, walked. No conditions. -/
import Derived.Test.YtkkcmobnhiiacaaDoorMarks
import Derived.Test.YtkkcmobnhiiacaaDoorOwnF
set_option linter.unusedSimpArgs false
set_option linter.unusedVariables false
set_option maxRecDepth 100000
namespace Go.Proofs.YtkkcmobnhiiacaaDoor
open Go.RowKit

def sumT (l : List Rn) : Nat := (l.map fun r => r.text.length).sum
theorem sumT_app (a b : List Rn) : sumT (a ++ b) = sumT a + sumT b := by simp [sumT]
theorem sumT_addR (out : List Rn) (r : Rn) : sumT (addR out r) = sumT out + r.text.length := by
  rcases rn_last out with ho | ⟨o, q, ho⟩
  · rw [ho, addR_nil]
    split
    · simp [sumT, *]
    · simp [sumT]
  · rw [ho]
    by_cases hm : q.marks = r.marks
    · rw [addR_same o q r hm, sumT_app, sumT_app]
      simp [sumT]
      omega
    · rw [addR_other o q r hm]
      split
      · simp [*]
      · rw [sumT_app (o ++ [q])]
        simp [sumT]
theorem addR_len (out : List Rn) (r : Rn) : (addR out r).length ≤ out.length + 1 := by
  rcases rn_last out with ho | ⟨o, q, ho⟩
  · rw [ho, addR_nil]
    split <;> simp
  · rw [ho]
    by_cases hm : q.marks = r.marks
    · rw [addR_same o q r hm]
      simp
    · rw [addR_other o q r hm]
      split <;> simp
def outN (L : List (List UInt8)) (l : List Rn) (k : Nat) : List Rn := ((l.take k).map (normR L)).foldl addR []
theorem outN_step {L : List (List UInt8)} {l : List Rn} {k : Nat} {x : Rn} (hx : l[k]? = some x) : outN L l (k + 1) = addR (outN L l k) (normR L x) := by
  unfold outN
  rw [List.take_add_one, hx, Option.toList_some, List.map_append, List.foldl_append]
  rfl
theorem outN_all (L : List (List UInt8)) (l : List Rn) : outN L l l.length = normL L l := by unfold outN normL; rw [List.take_length]
theorem outN_sum (L : List (List UInt8)) (l : List Rn) : ∀ k, sumT (outN L l k) = sumT (l.take k) := by
  intro k
  induction k with
  | zero => rfl
  | succ k ih =>
    cases hx : l[k]? with
    | none =>
      have : l.take (k + 1) = l.take k := by rw [List.take_add_one, hx]; simp
      unfold outN at ih ⊢
      rw [this]
      exact ih
    | some x =>
      rw [outN_step hx, sumT_addR, ih, List.take_add_one, hx, Option.toList_some, sumT_app]
      simp [sumT, normR]
theorem outN_len (L : List (List UInt8)) (l : List Rn) : ∀ k, (outN L l k).length ≤ k := by
  intro k
  induction k with
  | zero => exact Nat.le_refl _
  | succ k ih =>
    cases hx : l[k]? with
    | none =>
      have : l.take (k + 1) = l.take k := by rw [List.take_add_one, hx]; simp
      unfold outN at ih ⊢
      rw [this]
      omega
    | some x =>
      rw [outN_step hx]
      have := addR_len (outN L l k) (normR L x)
      omega
theorem sumT_take (l : List Rn) (k : Nat) : sumT (l.take k) ≤ sumT l := by
  have := sumT_app (l.take k) (l.drop k)
  rw [List.take_append_drop] at this
  omega
theorem sumT_mem {l : List Rn} {r : Rn} (h : r ∈ l) : r.text.length ≤ sumT l := by
  obtain ⟨a, b, rfl⟩ := List.append_of_mem h
  rw [sumT_app]
  simp [sumT]
  omega
theorem keepM_step {L ms : List (List UInt8)} {j : Nat} {m : List UInt8} (hm : L[j]? = some m) : keepM (L.take (j + 1)) ms = keepM (L.take j) ms ++ if m ∈ ms then [m] else [] := by
  unfold keepM
  rw [List.take_add_one, hm, Option.toList_some, List.filter_append]
  congr 1
  by_cases h : m ∈ ms <;> simp [h]
theorem keepM_len (L ms : List (List UInt8)) : (keepM L ms).length ≤ L.length := List.length_filter_le _ _
theorem cells_rn (l : List Rn) : ∀ y ∈ l.map rnA, y.cells.length = 2 := by
  intro y hy
  obtain ⟨x, _, rfl⟩ := List.mem_map.1 hy
  rfl
theorem nr_strs (l : List (List UInt8)) : nrL (l.map V.str) := by
  induction l with
  | nil => trivial
  | cons x l ih => exact ⟨trivial, ih⟩
theorem nr_rn (l : List Rn) : nrL (l.map rnA) := by
  induction l with
  | nil => trivial
  | cons x l ih => exact ⟨⟨trivial, trivial, trivial⟩, ih⟩
theorem frzL_ap (id : Nat) (els a b : List V) : frzL id els (a ++ b) = frzL id els a ++ frzL id els b := by
  induction a with
  | nil => simp [frzL]
  | cons x a ih => simp [frzL, ih]
theorem frz_run (id : Nat) (t : List UInt8) (K : List (List UInt8)) : frzL id (K.map V.str) [.agg [.str t, .sl id 0 K.length]] = [rnA ⟨t, K⟩] := by
  simp [frzL, V.frz, rnA]
  exact List.take_of_length_le (by simp)
theorem frz_sel (id : Nat) (q K : List (List UInt8)) : frzL id (K.map V.str) [.lst (q.map V.str), .sl id 0 K.length] = [.lst (q.map V.str), .lst (K.map V.str)] := by
  simp [frzL, V.frz]
  exact List.take_of_length_le (by simp)
theorem nl_strL : ∀ l : List (List UInt8), nlL (l.map V.str) = l.map V.str
  | [] => by simp [nlL]
  | a :: l => by simp [nlL, V.nl, nl_strL l]
theorem nl_rnL : ∀ l : List Rn, nlL (l.map rnA) = l.map rnA
  | [] => by simp [nlL]
  | a :: l => by simp [nlL, V.nl, rnA, nl_strL, nl_rnL l]
/-- The answer. -/
def normV (L : List (List UInt8)) (l : List Rn) : V := if l.all (okR L) = true then .tup [.lst ((normL L l).map rnA), .int .i64 0] else .tup [.lst [], .int .i64 5]

/-! ### Equal lists of strings -/
theorem equal_strs (a b : List (List UInt8)) : Fn1 Tryd.prog 80 [.lst (a.map V.str), .lst (b.map V.str)] (fun r => r = .bool (decide (a = b))) := by
  have hlm : (a.map V.str).length = a.length := by simp
  have hlm' : (b.map V.str).length = b.length := by simp
  by_cases hab : a.length = b.length
  · refine fn1E (T := Tryd.tt) Tryd.func80 rfl tt_all follows_all ?_ ?_ fun C hC hE => ?_
    · kernel_rfl
    · exact Nat.le_of_ble_eq_true (by kernel_rfl)
    conv => whnf
    repeat' (first | (refine brd_t (by first | assumption | omega) ?_; conv => whnf) | (refine brd_f (by first | assumption | omega) ?_; conv => whnf) | (refine ask (by first | assumption | omega) ?_; conv => whnf) | (refine fit64 (by omega) ?_; conv => whnf) | (refine fit (by simp only [kmin, kmax]; omega) ?_; conv => whnf) | (refine br_t (by assumption) ?_; conv => whnf) | (refine br_f (by assumption) ?_; conv => whnf) | (refine get_of (by assumption) ?_; conv => whnf) | (refine get_map (by assumption) ?_; conv => whnf) | (refine draw_lex hE ?_ ?_; decide +kernel; conv => whnf) | (refine draw_any hE [⟨0, [(0, none), (1, none), (2, none), (3, none), (4, none), (5, none), (6, none), (7, none), (8, none)], none, [], [[]]⟩] ?_ ?_; decide +kernel; conv => whnf) | (refine brd (fun h => ?_) (fun h => ?_) <;> conv => whnf) | (refine br (fun h => ?_) (fun h => ?_) <;> conv => whnf) | (refine ret_now hE ?_; conv => whnf) | (intro hlen; conv => whnf) | (refine seg_here ?_; conv => whnf) | (refine both ?_ ?_ <;> conv => whnf))
    refine loopE (fun k : Nat => ⟨26, [(0, .lst (a.map V.str)), (1, .lst (b.map V.str)), (12, .int .i64 (a.map V.str).length), (13, .int .i64 k)], []⟩) (fun k => k ≤ a.length ∧ ∀ j < k, a[j]? = b[j]?) (fun k => a.length - k) 0 hE ?_ ?_ ⟨Nat.zero_le _, fun j hj => by omega⟩ ?_
    · kernel_rfl
    · exact at_keep [0, 1, 12, 13] rfl
    intro k hk
    obtain ⟨hk, hj⟩ := hk
    by_cases hlt : k < a.length
    · obtain ⟨x, hx⟩ : ∃ x, a[k]? = some x := ⟨_, List.getElem?_eq_getElem hlt⟩
      obtain ⟨y, hy⟩ : ∃ y, b[k]? = some y := ⟨_, List.getElem?_eq_getElem (by omega)⟩
      conv => whnf
      repeat' (first | (refine brd_t (by first | assumption | omega) ?_; conv => whnf) | (refine brd_f (by first | assumption | omega) ?_; conv => whnf) | (refine ask (by first | assumption | omega) ?_; conv => whnf) | (refine fit64 (by omega) ?_; conv => whnf) | (refine fit (by simp only [kmin, kmax]; omega) ?_; conv => whnf) | (refine br_t (by assumption) ?_; conv => whnf) | (refine br_f (by assumption) ?_; conv => whnf) | (refine get_of (by assumption) ?_; conv => whnf) | (refine get_map (by assumption) ?_; conv => whnf) | (refine draw_lex hE ?_ ?_; decide +kernel; conv => whnf) | (refine draw_any hE [⟨0, [(0, none), (1, none), (2, none), (3, none), (4, none), (5, none), (6, none), (7, none), (8, none)], none, [], [[]]⟩] ?_ ?_; decide +kernel; conv => whnf) | (refine brd (fun h => ?_) (fun h => ?_) <;> conv => whnf) | (refine br (fun h => ?_) (fun h => ?_) <;> conv => whnf) | (refine ret_now hE ?_; conv => whnf) | (intro hlen; conv => whnf) | (refine seg_here ?_; conv => whnf) | (refine both ?_ ?_ <;> conv => whnf))
      all_goals first
        | (refine ⟨rfl, ?_⟩
           rw [decide_eq_false]
           intro e
           rw [e, hy] at hx
           cases hx
           exact absurd rfl (by assumption))
        | (refine next_keep [0, 1, 12, 13] (k + 1) ⟨hlt, fun j hjk => ?_⟩ (show a.length - (k + 1) < a.length - k by omega) rfl
           by_cases e : j = k
           · subst e
             rw [hx, hy]
             exact congrArg some (by first | assumption | (rename_i h; exact Classical.not_not.1 h))
           · exact hj j (by omega))
    · conv => whnf
      repeat' (first | (refine brd_t (by first | assumption | omega) ?_; conv => whnf) | (refine brd_f (by first | assumption | omega) ?_; conv => whnf) | (refine ask (by first | assumption | omega) ?_; conv => whnf) | (refine fit64 (by omega) ?_; conv => whnf) | (refine fit (by simp only [kmin, kmax]; omega) ?_; conv => whnf) | (refine br_t (by assumption) ?_; conv => whnf) | (refine br_f (by assumption) ?_; conv => whnf) | (refine get_of (by assumption) ?_; conv => whnf) | (refine get_map (by assumption) ?_; conv => whnf) | (refine draw_lex hE ?_ ?_; decide +kernel; conv => whnf) | (refine draw_any hE [⟨0, [(0, none), (1, none), (2, none), (3, none), (4, none), (5, none), (6, none), (7, none), (8, none)], none, [], [[]]⟩] ?_ ?_; decide +kernel; conv => whnf) | (refine brd (fun h => ?_) (fun h => ?_) <;> conv => whnf) | (refine br (fun h => ?_) (fun h => ?_) <;> conv => whnf) | (refine ret_now hE ?_; conv => whnf) | (intro hlen; conv => whnf) | (refine seg_here ?_; conv => whnf) | (refine both ?_ ?_ <;> conv => whnf))
      refine ⟨rfl, ?_⟩
      rw [decide_eq_true]
      apply List.ext_getElem?
      intro j
      by_cases h : j < a.length
      · exact hj j (by omega)
      · rw [List.getElem?_eq_none (by omega), List.getElem?_eq_none (by omega)]
  · refine fn1E (T := Tryd.tt) Tryd.func80 rfl tt_all follows_all ?_ ?_ fun C hC hE => ?_
    · kernel_rfl
    · exact Nat.le_of_ble_eq_true (by kernel_rfl)
    conv => whnf
    repeat' (first | (refine brd_t (by first | assumption | omega) ?_; conv => whnf) | (refine brd_f (by first | assumption | omega) ?_; conv => whnf) | (refine ask (by first | assumption | omega) ?_; conv => whnf) | (refine fit64 (by omega) ?_; conv => whnf) | (refine fit (by simp only [kmin, kmax]; omega) ?_; conv => whnf) | (refine br_t (by assumption) ?_; conv => whnf) | (refine br_f (by assumption) ?_; conv => whnf) | (refine get_of (by assumption) ?_; conv => whnf) | (refine get_map (by assumption) ?_; conv => whnf) | (refine draw_lex hE ?_ ?_; decide +kernel; conv => whnf) | (refine draw_any hE [⟨0, [(0, none), (1, none), (2, none), (3, none), (4, none), (5, none), (6, none), (7, none), (8, none)], none, [], [[]]⟩] ?_ ?_; decide +kernel; conv => whnf) | (refine brd (fun h => ?_) (fun h => ?_) <;> conv => whnf) | (refine br (fun h => ?_) (fun h => ?_) <;> conv => whnf) | (refine ret_now hE ?_; conv => whnf) | (intro hlen; conv => whnf) | (refine seg_here ?_; conv => whnf) | (refine both ?_ ?_ <;> conv => whnf))
    exact ⟨rfl, by rw [decide_eq_false (fun e => hab (by rw [e]))]⟩
theorem norm1 (L : List (List UInt8)) (m : List UInt8) : Fn1 Tryd.prog 79 [.str m, .rp [.lst (L.map V.str)]] (fun r => r = .bool (!decide (m ∈ L))) := by
  have h1 := contains_str L m
  obtain ⟨a, ha⟩ : ∃ a, decide (m ∈ L) = a := ⟨_, rfl⟩
  rw [ha] at h1 ⊢
  refine fn1E (T := Tryd.tt) Tryd.func79 rfl tt_all follows_all ?_ ?_ fun C hC hE => ?_
  · kernel_rfl
  · exact Nat.le_of_ble_eq_true (by kernel_rfl)
  conv => whnf
  repeat' (first | (refine brd_t (by first | assumption | omega) ?_; conv => whnf) | (refine brd_f (by first | assumption | omega) ?_; conv => whnf) | (refine ask (by first | assumption | omega) ?_; conv => whnf) | (refine fit64 (by omega) ?_; conv => whnf) | (refine fit (by simp only [kmin, kmax]; omega) ?_; conv => whnf) | (refine br_t (by assumption) ?_; conv => whnf) | (refine br_f (by assumption) ?_; conv => whnf) | (refine get_of (by assumption) ?_; conv => whnf) | (refine get_map (by assumption) ?_; conv => whnf) | (refine call_eq (h1) hC hasBody_64 ?_ ?_ ?_; kernel_rfl; kernel_rfl; conv => whnf) | (refine callq_eq (h1) hC hasBody_64 ?_ ?_ ?_; kernel_rfl; kernel_rfl; conv => whnf) | (refine draw_lex hE ?_ ?_; decide +kernel; conv => whnf) | (refine brd (fun h => ?_) (fun h => ?_) <;> conv => whnf) | (refine br (fun h => ?_) (fun h => ?_) <;> conv => whnf) | (refine ret_now hE ?_; conv => whnf) | (intro hlen; conv => whnf) | (refine seg_here ?_; conv => whnf) | (refine both ?_ ?_ <;> conv => whnf))
  all_goals exact ⟨rfl, by simp_all⟩
end Go.Proofs.YtkkcmobnhiiacaaDoor
