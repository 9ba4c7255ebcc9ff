/- The document's AutoSame walked: it tells whether two machines end alike upon every word. No conditions. -/
import Derived.Test.YtmjglpdfkkmcoaaSmDis
set_option linter.unusedSimpArgs false
set_option linter.unusedVariables false
set_option maxRecDepth 100000
namespace Go.Proofs.Ytmjglpdfkkmcoaa
open Go.RowKit

def upT (n : Nat) (T : List (List Int)) : List (List Int) := T.map fun r => r.map (· + (n : Int))
def bothT (T1 T2 : List (List Int)) : List (List Int) := totT T1 ++ upT (T1.length + 1) (totT T2)
def bothF (F1 F2 : List Bool) : List Bool := totF F1 ++ totF F2
def stN (n : Nat) (x : Int) : Nat := if 0 ≤ x then x.toNat else n
theorem stN_lt {n : Nat} {x : Int} (h : stOk n x) : stN n x < n + 1 := by
  obtain ⟨h1, h2⟩ := h
  unfold stN
  split <;> omega
theorem totT_len (T : List (List Int)) : (totT T).length = T.length + 1 := by simp [totT]
theorem tot_row {T : List (List Int)} {F : List Bool} (h : mayOk T F = true) {x : Int} (hx : stOk T.length x) {c : Nat} (hc : c < 8) : ∃ row y, (totT T)[stN T.length x]? = some row ∧ row[c]? = some y ∧ y = (stN T.length (stepI T x c) : Nat) := by
  by_cases h0 : 0 ≤ x
  · obtain ⟨row, to, hrow, h8, hto, hs, e⟩ := may_row h hx h0 hc
    obtain ⟨hx1, hx2⟩ := hx
    refine ⟨row.map (deadS T.length), deadS T.length to, ?_, by rw [List.getElem?_map, hto]; rfl, ?_⟩
    · unfold totT stN
      rw [if_pos h0, List.getElem?_append_left (by simp; omega), List.getElem?_map, hrow]
      rfl
    · rw [e]
      unfold deadS stN
      obtain ⟨hs1, hs2⟩ := hs
      split <;> split <;> omega
  · refine ⟨List.replicate 8 (T.length : Int), T.length, ?_, by rw [List.getElem?_replicate, if_pos hc], ?_⟩
    · unfold totT stN
      rw [if_neg h0, List.getElem?_append_right (by simp)]
      simp
    · simp [stepI, h0, stN]
theorem nx_1 {T1 T2 : List (List Int)} {F1 : List Bool} (h : mayOk T1 F1 = true) {x : Int} (hx : stOk T1.length x) {c : Nat} (hc : c < 8) : nxT (bothT T1 T2) (stN T1.length x) c = stN T1.length (stepI T1 x c) := by
  obtain ⟨row, y, h1, h2, e⟩ := tot_row h hx hc
  unfold nxT bothT
  rw [List.getElem?_append_left (by rw [totT_len]; exact stN_lt hx), h1]
  simp [h2, e]
theorem nx_2 {T1 T2 : List (List Int)} {F2 : List Bool} (h : mayOk T2 F2 = true) {x : Int} (hx : stOk T2.length x) {c : Nat} (hc : c < 8) : nxT (bothT T1 T2) (T1.length + 1 + stN T2.length x) c = T1.length + 1 + stN T2.length (stepI T2 x c) := by
  obtain ⟨row, y, h1, h2, e⟩ := tot_row h hx hc
  unfold nxT bothT upT
  rw [List.getElem?_append_right (by rw [totT_len]; omega), totT_len, Nat.add_sub_cancel_left, List.getElem?_map, h1]
  simp [h2, e]
  omega
theorem run_ok {T : List (List Int)} {F : List Bool} (h : mayOk T F = true) : ∀ (w : List Nat) (x : Int), stOk T.length x → wordOk w → stOk T.length (runI T x w)
  | [], x, hx, _ => hx
  | c :: w, x, hx, hw => run_ok h w (stepI T x c) (step_ok h hx (hw c (by simp))) (fun d hd => hw d (by simp [hd]))
theorem fold_1 {T1 T2 : List (List Int)} {F1 : List Bool} (h : mayOk T1 F1 = true) : ∀ (w : List Nat) (x : Int), stOk T1.length x → wordOk w → w.foldl (nxT (bothT T1 T2)) (stN T1.length x) = stN T1.length (runI T1 x w)
  | [], x, hx, _ => rfl
  | c :: w, x, hx, hw => by
    have hc := hw c (by simp)
    rw [List.foldl_cons, nx_1 h hx hc]
    exact fold_1 h w (stepI T1 x c) (step_ok h hx hc) (fun d hd => hw d (by simp [hd]))
theorem fold_2 {T1 T2 : List (List Int)} {F2 : List Bool} (h : mayOk T2 F2 = true) : ∀ (w : List Nat) (x : Int), stOk T2.length x → wordOk w → w.foldl (nxT (bothT T1 T2)) (T1.length + 1 + stN T2.length x) = T1.length + 1 + stN T2.length (runI T2 x w)
  | [], x, hx, _ => rfl
  | c :: w, x, hx, hw => by
    have hc := hw c (by simp)
    rw [List.foldl_cons, nx_2 h hx hc]
    exact fold_2 h w (stepI T2 x c) (step_ok h hx hc) (fun d hd => hw d (by simp [hd]))
theorem fin_tot {T : List (List Int)} {F : List Bool} (h : mayOk T F = true) {x : Int} (hx : stOk T.length x) : (totF F)[stN T.length x]? = some (finI F x) := by
  obtain ⟨_, _, hF, _⟩ := may_parts h
  obtain ⟨hx1, hx2⟩ := hx
  unfold totF stN finI
  split
  · rename_i h0
    obtain ⟨b, hb⟩ : ∃ y, F[x.toNat]? = some y := ⟨_, List.getElem?_eq_getElem (by omega)⟩
    rw [List.getElem?_append_left (by omega), hb]
    simp [h0]
  · rename_i h0
    rw [List.getElem?_append_right (by omega), hF, Nat.sub_self]
    simp [h0]
theorem fn_1 {T1 : List (List Int)} {F1 F2 : List Bool} (h : mayOk T1 F1 = true) {x : Int} (hx : stOk T1.length x) : fnF (bothF F1 F2) (stN T1.length x) = finI F1 x := by
  have := fin_tot h hx
  unfold fnF bothF
  rw [List.getElem?_append_left (List.getElem?_eq_some_iff.1 this).1, this]
  rfl
theorem fn_2 {T1 T2 : List (List Int)} {F1 F2 : List Bool} (h1 : mayOk T1 F1 = true) (h : mayOk T2 F2 = true) {x : Int} (hx : stOk T2.length x) : fnF (bothF F1 F2) (T1.length + 1 + stN T2.length x) = finI F2 x := by
  obtain ⟨_, _, hF, _⟩ := may_parts h1
  have := fin_tot h hx
  have hl : (totF F1).length = T1.length + 1 := by simp [totF, hF]
  unfold fnF bothF
  rw [List.getElem?_append_right (by omega), hl, Nat.add_sub_cancel_left, this]
  rfl
theorem tot_rows {T : List (List Int)} {F : List Bool} (h : mayOk T F = true) : ∀ r ∈ totT T, r.length = 8 ∧ ∀ x ∈ r, 0 ≤ x ∧ x ≤ (T.length : Int) := by
  intro r hr
  obtain ⟨_, _, _, hrow⟩ := may_parts h
  unfold totT at hr
  rw [List.mem_append] at hr
  rcases hr with hr | hr
  · obtain ⟨q, hq, rfl⟩ := List.mem_map.1 hr
    obtain ⟨h8, hs⟩ := hrow q hq
    refine ⟨by simp [h8], fun x hx => ?_⟩
    obtain ⟨y, hy, rfl⟩ := List.mem_map.1 hx
    obtain ⟨s1, s2⟩ := hs y hy
    unfold deadS
    split <;> omega
  · rw [List.mem_singleton] at hr
    subst hr
    refine ⟨by simp, fun x hx => ?_⟩
    have := List.eq_of_mem_replicate hx
    omega
theorem both_rows {T1 T2 : List (List Int)} {F1 F2 : List Bool} (h1 : mayOk T1 F1 = true) (h2 : mayOk T2 F2 = true) : ∀ r ∈ bothT T1 T2, r.length = 8 ∧ ∀ x ∈ r, 0 ≤ x ∧ x < ((T1.length + 1 + (T2.length + 1) : Nat) : Int) := by
  intro r hr
  unfold bothT upT at hr
  rw [List.mem_append] at hr
  rcases hr with hr | hr
  · obtain ⟨h8, hx⟩ := tot_rows h1 r hr
    exact ⟨h8, fun x hxx => by have := hx x hxx; omega⟩
  · obtain ⟨q, hq, rfl⟩ := List.mem_map.1 hr
    obtain ⟨h8, hx⟩ := tot_rows h2 q hq
    refine ⟨by simp [h8], fun x hxx => ?_⟩
    obtain ⟨y, hy, rfl⟩ := List.mem_map.1 hxx
    have := hx y hy
    omega
theorem both_same {T1 T2 : List (List Int)} {F1 F2 : List Bool} (h1 : mayOk T1 F1 = true) (h2 : mayOk T2 F2 = true) {D : Nat → Nat → Bool} (hD : Tab (nxT (bothT T1 T2)) (fnF (bothF F1 F2)) (T1.length + 1 + (T2.length + 1)) D) : D 0 (T1.length + 1) = false ↔ sameW T1 F1 T2 F2 := by
  obtain ⟨a1, _, _, _⟩ := may_parts h1
  obtain ⟨a2, _, _, _⟩ := may_parts h2
  have hb := both_rows h1 h2
  have hn : ∀ i c, i < T1.length + 1 + (T2.length + 1) → c < 8 → nxT (bothT T1 T2) i c < T1.length + 1 + (T2.length + 1) := by
    intro i c hi hc
    have hl : (bothT T1 T2).length = T1.length + 1 + (T2.length + 1) := by simp [bothT, upT, totT_len]
    obtain ⟨row, hrow⟩ : ∃ y, (bothT T1 T2)[i]? = some y := ⟨_, List.getElem?_eq_getElem (by omega)⟩
    obtain ⟨h8, hx⟩ := hb row (List.mem_of_getElem? hrow)
    obtain ⟨x, hxc⟩ : ∃ y, row[c]? = some y := ⟨_, List.getElem?_eq_getElem (by omega)⟩
    have := hx x (List.mem_of_getElem? hxc)
    simp only [nxT, hrow, Option.getD_some, hxc]
    omega
  rw [tab_iff hD hn (by omega) (by omega)]
  have s1 : stOk T1.length 0 := ⟨by omega, by omega⟩
  have s2 : stOk T2.length 0 := ⟨by omega, by omega⟩
  have e0 : ∀ n, stN n 0 = 0 := fun n => by simp [stN]
  have f1 := fun w hw => fold_1 (T2 := T2) h1 w 0 s1 hw
  have f2 := fun w hw => fold_2 (T1 := T1) h2 w 0 s2 hw
  simp only [e0, Nat.add_zero] at f1 f2
  constructor
  · intro h w hw
    have := h w hw
    rw [f1 w hw, f2 w hw, fn_1 h1 (run_ok h1 w 0 s1 hw), fn_2 h1 h2 (run_ok h2 w 0 s2 hw)] at this
    exact this
  · intro h w hw
    rw [f1 w hw, f2 w hw, fn_1 h1 (run_ok h1 w 0 s1 hw), fn_2 h1 h2 (run_ok h2 w 0 s2 hw)]
    exact h w hw
set_option maxHeartbeats 8000000 in
theorem docsame_bad {T1 T2 : List (List Int)} {F1 F2 : List Bool} (h : ¬ (mayOk T1 F1 = true ∧ mayOk T2 F2 = true)) : Fn1 Try.prog 5 [autoV T1 F1, autoV T2 F2] (fun r => r = .tup [.bool false, .int .i64 4]) := by
  have f1 := auto_may T1 F1
  have f2 := auto_may T2 F2
  cases m1 : mayOk T1 F1 with
  | false =>
    rw [m1] at f1
    cases m2 : mayOk T2 F2 <;> rw [m2] at f2
    all_goals
      refine fn1E (T := Try.tt) Try.func5 rfl tt_all follows_all ?_ ?_ fun C hC hE => ?_
      · kernel_rfl
      · exact Nat.le_of_ble_eq_true (by kernel_rfl)
      conv => whnf
      repeat' (first | (refine brd_t (by first | assumption | omega) ?_; conv => whnf) | (refine brd_f (by first | assumption | omega) ?_; conv => whnf) | (refine ask (by first | assumption | omega) ?_; conv => whnf) | (refine fit64 (by omega) ?_; conv => whnf) | (refine fit (by simp only [kmin, kmax]; omega) ?_; conv => whnf) | (refine br_t (by assumption) ?_; conv => whnf) | (refine br_f (by assumption) ?_; conv => whnf) | (refine get_of (by assumption) ?_; conv => whnf) | (refine get_map (by assumption) ?_; conv => whnf) | (refine call_eq (f1) hC hasBody_11 ?_ ?_ ?_; kernel_rfl; kernel_rfl; conv => whnf) | (refine callq_eq (f1) hC hasBody_11 ?_ ?_ ?_; kernel_rfl; kernel_rfl; conv => whnf) | (refine call_eq (f2) hC hasBody_11 ?_ ?_ ?_; kernel_rfl; kernel_rfl; conv => whnf) | (refine callq_eq (f2) hC hasBody_11 ?_ ?_ ?_; kernel_rfl; kernel_rfl; conv => whnf) | (refine draw_lex hE ?_ ?_; decide +kernel; conv => whnf) | (refine draw_any hE [⟨3, [(0, none), (1, none), (3, none), (4, none), (2, some 0), (5, some 1), (6, none), (7, some 2)], some 8, [], [[]]⟩] ?_ ?_; decide +kernel; conv => whnf) | (refine draw_any hE [⟨1, [(0, none), (1, none), (2, none), (3, none), (4, none), (5, none), (6, none), (7, some 0)], some 8, [], [[]]⟩, ⟨0, [(9, none)], some 10, [], [[]]⟩] ?_ ?_; decide +kernel; conv => whnf) | (refine brd (fun h => ?_) (fun h => ?_) <;> conv => whnf) | (refine br (fun h => ?_) (fun h => ?_) <;> conv => whnf) | (refine ret_now hE ?_; conv => whnf) | (intro hlen; conv => whnf) | (refine seg_here ?_; conv => whnf) | (refine both ?_ ?_ <;> conv => whnf))
      all_goals exact ⟨rfl, rfl⟩
  | true =>
    cases m2 : mayOk T2 F2 with
    | true => exact absurd ⟨m1, m2⟩ h
    | false =>
      rw [m1] at f1
      rw [m2] at f2
      refine fn1E (T := Try.tt) Try.func5 rfl tt_all follows_all ?_ ?_ fun C hC hE => ?_
      · kernel_rfl
      · exact Nat.le_of_ble_eq_true (by kernel_rfl)
      conv => whnf
      repeat' (first | (refine brd_t (by first | assumption | omega) ?_; conv => whnf) | (refine brd_f (by first | assumption | omega) ?_; conv => whnf) | (refine ask (by first | assumption | omega) ?_; conv => whnf) | (refine fit64 (by omega) ?_; conv => whnf) | (refine fit (by simp only [kmin, kmax]; omega) ?_; conv => whnf) | (refine br_t (by assumption) ?_; conv => whnf) | (refine br_f (by assumption) ?_; conv => whnf) | (refine get_of (by assumption) ?_; conv => whnf) | (refine get_map (by assumption) ?_; conv => whnf) | (refine call_eq (f1) hC hasBody_11 ?_ ?_ ?_; kernel_rfl; kernel_rfl; conv => whnf) | (refine callq_eq (f1) hC hasBody_11 ?_ ?_ ?_; kernel_rfl; kernel_rfl; conv => whnf) | (refine call_eq (f2) hC hasBody_11 ?_ ?_ ?_; kernel_rfl; kernel_rfl; conv => whnf) | (refine callq_eq (f2) hC hasBody_11 ?_ ?_ ?_; kernel_rfl; kernel_rfl; conv => whnf) | (refine draw_lex hE ?_ ?_; decide +kernel; conv => whnf) | (refine draw_any hE [⟨3, [(0, none), (1, none), (3, none), (4, none), (2, some 0), (5, some 1), (6, none), (7, some 2)], some 8, [], [[]]⟩] ?_ ?_; decide +kernel; conv => whnf) | (refine draw_any hE [⟨1, [(0, none), (1, none), (2, none), (3, none), (4, none), (5, none), (6, none), (7, some 0)], some 8, [], [[]]⟩, ⟨0, [(9, none)], some 10, [], [[]]⟩] ?_ ?_; decide +kernel; conv => whnf) | (refine brd (fun h => ?_) (fun h => ?_) <;> conv => whnf) | (refine br (fun h => ?_) (fun h => ?_) <;> conv => whnf) | (refine ret_now hE ?_; conv => whnf) | (intro hlen; conv => whnf) | (refine seg_here ?_; conv => whnf) | (refine both ?_ ?_ <;> conv => whnf))
      all_goals exact ⟨rfl, rfl⟩
theorem cells_ints (l : List (List Int)) : ∀ y, y ∈ l.map ints → y.cells.length = 1 := fun y hy => by
  obtain ⟨x, _, rfl⟩ := List.mem_map.1 hy
  rfl
theorem rnd_rows (R : List (List Int)) (Z : List Int) : killL 8 (killL 7 (killL 1 (frzL 0 (Z.map (V.int .i64)) (killL 5 (killL 4 (List.take R.length (List.drop 0 (R.map ints)) ++ List.take 1 (List.drop 0 [V.sl 0 0 Z.length]))))))) = (R ++ [Z]).map ints := by
  rw [List.drop_zero, List.take_of_length_le (by simp), killL_join, kill_nrL _ (nr_rows R), killL_join, kill_nrL _ (nr_rows R), frzL_join, frz_nrL _ _ (nr_rows R)]
  have e : frzL 0 (Z.map (V.int .i64)) (killL 5 (killL 4 (List.take 1 (List.drop 0 [V.sl 0 0 Z.length])))) = [ints Z] := by
    show frzL 0 (Z.map (V.int .i64)) [V.sl 0 0 Z.length] = [ints Z]
    rw [frzL, frz_self 0 _ (by simp)]
    rfl
  rw [e, show R.map ints ++ [ints Z] = (R ++ [Z]).map ints by rw [List.map_append]; rfl, kill_nrL _ (nr_rows _), kill_nrL _ (nr_rows _), kill_nrL _ (nr_rows _)]
theorem rnd_bools (els : List V) (G : List Bool) (b : Bool) : killL 8 (killL 7 (killL 1 (frzL 0 els (killL 5 (List.take G.length (List.drop 0 (killL 4 (G.map V.bool))) ++ List.take 1 (List.drop 0 [V.bool b])))))) = (G ++ [b]).map V.bool := by
  rw [kill_nrL 4 (nr_bools G), List.drop_zero, List.take_of_length_le (by simp), show G.map V.bool ++ List.take 1 (List.drop 0 [V.bool b]) = (G ++ [b]).map V.bool by rw [List.map_append]; rfl, kill_nrL _ (nr_bools _), frz_nrL _ _ (nr_bools _), kill_nrL _ (nr_bools _), kill_nrL _ (nr_bools _), kill_nrL _ (nr_bools _)]
theorem len_rows (R : List (List Int)) (Z : List Int) : R.length + (List.take 1 (List.drop 0 [V.sl 0 0 Z.length])).length = (R ++ [Z]).length := by
  rw [List.length_append]
  rfl
theorem len_bools (G : List Bool) (b : Bool) : G.length + (List.take 1 (List.drop 0 [V.bool b])).length = (G ++ [b]).length := by
  rw [List.length_append]
  rfl
set_option maxHeartbeats 8000000 in
theorem docsame_good {T1 T2 : List (List Int)} {F1 F2 : List Bool} (m1 : mayOk T1 F1 = true) (m2 : mayOk T2 F2 = true) (b : Bool) (hb : b = true ↔ sameW T1 F1 T2 F2) : Fn1 Try.prog 5 [autoV T1 F1, autoV T2 F2] (fun r => r = .tup [.bool b, .int .i64 0]) := by
  have f1 := auto_may T1 F1
  have f2 := auto_may T2 F2
  rw [m1] at f1
  rw [m2] at f2
  have t1 := total_of m1
  have t2 := total_of m2
  obtain ⟨p1, p40, pF, _⟩ := may_parts m1
  obtain ⟨q1, q40, qF, _⟩ := may_parts m2
  obtain ⟨X, hX⟩ : ∃ X, totT T1 = X := ⟨_, rfl⟩
  obtain ⟨Y, hY⟩ : ∃ Y, totT T2 = Y := ⟨_, rfl⟩
  obtain ⟨P, hP⟩ : ∃ P, totF F1 = P := ⟨_, rfl⟩
  obtain ⟨Q, hQ⟩ : ∃ Q, totF F2 = Q := ⟨_, rfl⟩
  rw [hX, hP] at t1
  rw [hY, hQ] at t2
  unfold totV at t1 t2
  have lX : X.length = T1.length + 1 := by rw [← hX, totT_len]
  have lY : Y.length = T2.length + 1 := by rw [← hY, totT_len]
  have lP : P.length = T1.length + 1 := by rw [← hP]; simp [totF, pF]
  have lQ : Q.length = T2.length + 1 := by rw [← hQ]; simp [totF, qF]
  have hXm : (X.map ints).length = X.length := by simp
  have hYm : (Y.map ints).length = Y.length := by simp
  have hPm : (P.map V.bool).length = P.length := by simp
  have hQm : (Q.map V.bool).length = Q.length := by simp
  refine fn1E (T := Try.tt) Try.func5 rfl tt_all follows_all ?_ ?_ fun C hC hE => ?_
  · kernel_rfl
  · exact Nat.le_of_ble_eq_true (by kernel_rfl)
  conv => whnf
  repeat' (first | (refine brd_t (by first | assumption | omega) ?_; conv => whnf) | (refine brd_f (by first | assumption | omega) ?_; conv => whnf) | (refine ask (by first | assumption | omega) ?_; conv => whnf) | (refine fit64 (by omega) ?_; conv => whnf) | (refine fit (by simp only [kmin, kmax]; omega) ?_; conv => whnf) | (refine br_t (by assumption) ?_; conv => whnf) | (refine br_f (by assumption) ?_; conv => whnf) | (refine get_of (by assumption) ?_; conv => whnf) | (refine get_map (by assumption) ?_; conv => whnf) | (refine call_eq (f1) hC hasBody_11 ?_ ?_ ?_; kernel_rfl; kernel_rfl; conv => whnf) | (refine callq_eq (f1) hC hasBody_11 ?_ ?_ ?_; kernel_rfl; kernel_rfl; conv => whnf) | (refine call_eq (f2) hC hasBody_11 ?_ ?_ ?_; kernel_rfl; kernel_rfl; conv => whnf) | (refine callq_eq (f2) hC hasBody_11 ?_ ?_ ?_; kernel_rfl; kernel_rfl; conv => whnf) | (refine call_eq (t1) hC hasBody_12 ?_ ?_ ?_; kernel_rfl; kernel_rfl; conv => whnf) | (refine callq_eq (t1) hC hasBody_12 ?_ ?_ ?_; kernel_rfl; kernel_rfl; conv => whnf) | (refine call_eq (t2) hC hasBody_12 ?_ ?_ ?_; kernel_rfl; kernel_rfl; conv => whnf) | (refine callq_eq (t2) hC hasBody_12 ?_ ?_ ?_; kernel_rfl; kernel_rfl; conv => whnf) | (refine ⟨cells_ints X, ?_⟩; conv => whnf) | (refine ⟨cells_bool P, ?_⟩; conv => whnf) | (refine draw_lex hE ?_ ?_; decide +kernel; conv => whnf) | (refine draw_any hE [⟨3, [(0, none), (1, none), (3, none), (4, none), (2, some 0), (5, some 1), (6, none), (7, some 2)], some 8, [], [[]]⟩] ?_ ?_; decide +kernel; conv => whnf) | (refine draw_any hE [⟨1, [(0, none), (1, none), (2, none), (3, none), (4, none), (5, none), (6, none), (7, some 0)], some 8, [], [[]]⟩, ⟨0, [(9, none)], some 10, [], [[]]⟩] ?_ ?_; decide +kernel; conv => whnf) | (refine brd (fun h => ?_) (fun h => ?_) <;> conv => whnf) | (refine br (fun h => ?_) (fun h => ?_) <;> conv => whnf) | (refine ret_now hE ?_; conv => whnf) | (intro hlen; conv => whnf) | (refine seg_here ?_; conv => whnf) | (refine both ?_ ?_ <;> conv => whnf))
  refine loopE (fun ((k, R, G) : Nat × List (List Int) × List Bool) => ⟨84, [(7, .rp [.lst (Y.map ints), .lst (Q.map V.bool)]), (8, .int .i64 X.length), (9, .ptr 6 0 0), (37, .lst (Y.map ints)), (38, .int .i64 Y.length), (39, .int .i64 k)],
      [none, none, none, none, some (.row 1 (R.map ints)), some (.row 1 (G.map V.bool)), some (.row 2 [.agg [.sl 4 0 R.length, .sl 5 0 G.length]])]⟩)
    (fun (k, R, G) => k ≤ Y.length ∧ R = X ++ (Y.take k).map (fun r => r.map (· + (X.length : Int))) ∧ G = P ++ Q.take k) (fun (k, _, _) => Y.length - k) (0, X, P) hE ?_ ?_ ⟨Nat.zero_le _, by simp, by simp⟩ ?_
  · kernel_rfl
  · refine up_freeze 3 (z := 2) (els := [.agg [.lst (Y.map ints), .lst (Q.map V.bool)]]) rfl ⟨⟨trivial, trivial, trivial⟩, trivial⟩ (at_drop [7, 8, 9, 37, 38, 39] [0, 1, 2] ?_)
    conv => whnf
    rw [hXm, hYm, hPm]
    have e1 := frz_nrL 3 [.agg [.lst (Y.map ints), .lst (Q.map V.bool)]] (nr_rows X)
    have e2 := frz_nrL 3 [.agg [.lst (Y.map ints), .lst (Q.map V.bool)]] (nr_bools P)
    simp only [e1, e2, kill_nrL _ (nr_rows _), kill_nrL _ (nr_bools _)]
    rfl
  rintro ⟨k, R, G⟩ ⟨hk, hR, hG⟩
  have hRl : R.length = X.length + k := by rw [hR]; simp; omega
  have hGl : G.length = P.length + k := by rw [hG]; simp; omega
  have hRm : (R.map ints).length = R.length := by simp
  have hGm : (G.map V.bool).length = G.length := by simp
  by_cases hlt : k < Y.length
  · obtain ⟨row, hrow⟩ : ∃ x, Y[k]? = some x := ⟨_, List.getElem?_eq_getElem hlt⟩
    obtain ⟨g, hg⟩ : ∃ x, Q[k]? = some x := ⟨_, List.getElem?_eq_getElem (by omega)⟩
    have hrm : (row.map (V.int .i64)).length = row.length := by simp
    obtain ⟨h8, hxr⟩ := tot_rows m2 row (by rw [hY]; exact List.mem_of_getElem? hrow)
    conv => whnf
    repeat' (first | (refine brd_t (by first | assumption | omega) ?_; conv => whnf) | (refine brd_f (by first | assumption | omega) ?_; conv => whnf) | (refine ask (by first | assumption | omega) ?_; conv => whnf) | (refine fit64 (by omega) ?_; conv => whnf) | (refine fit (by simp only [kmin, kmax]; omega) ?_; conv => whnf) | (refine br_t (by assumption) ?_; conv => whnf) | (refine br_f (by assumption) ?_; conv => whnf) | (refine get_of (by assumption) ?_; conv => whnf) | (refine get_map (by assumption) ?_; conv => whnf) | (refine ⟨cells_i64 row, ?_⟩; conv => whnf) | (refine ask ⟨?_, ?_⟩ ?_; omega; omega; conv => whnf) | (refine draw_lex hE ?_ ?_; decide +kernel; conv => whnf) | (refine draw_any hE [⟨3, [(0, none), (1, none), (3, none), (4, none), (2, some 0), (5, some 1), (6, none), (7, some 2)], some 8, [], [[]]⟩] ?_ ?_; decide +kernel; conv => whnf) | (refine draw_any hE [⟨1, [(0, none), (1, none), (2, none), (3, none), (4, none), (5, none), (6, none), (7, some 0)], some 8, [], [[]]⟩, ⟨0, [(9, none)], some 10, [], [[]]⟩] ?_ ?_; decide +kernel; conv => whnf) | (refine brd (fun h => ?_) (fun h => ?_) <;> conv => whnf) | (refine br (fun h => ?_) (fun h => ?_) <;> conv => whnf) | (refine ret_now hE ?_; conv => whnf) | (intro hlen; conv => whnf) | (refine seg_here ?_; conv => whnf) | (refine both ?_ ?_ <;> conv => whnf))
    refine loopE (fun ((c, Z) : Nat × List Int) => ⟨84, [(7, .rp [.lst (Y.map ints), .lst (Q.map V.bool)]), (8, .int .i64 X.length), (9, .ptr 6 0 0), (10, .int .i64 k), (12, .sl 0 0 Z.length), (37, .lst (Y.map ints)), (38, .int .i64 Y.length), (39, .int .i64 k), (47, .int .i64 Z.length), (48, .int .i64 c)],
        [some (.row 1 (Z.map (V.int .i64))), none, none, none, some (.row 1 (R.map ints)), some (.row 1 (G.map V.bool)), some (.row 2 [.agg [.sl 4 0 R.length, .sl 5 0 G.length]])]⟩)
      (fun (c, Z) => c ≤ 8 ∧ Z.length = 8 ∧ Z = (row.take c).map (· + (X.length : Int)) ++ row.drop c) (fun (c, _) => 8 - c) (0, row) hE ?_ ?_ ⟨Nat.zero_le _, h8, rfl⟩ ?_
    · kernel_rfl
    · refine at_keep [7, 8, 9, 10, 12, 37, 38, 39, 47, 48] ?_
      conv => whnf
      rw [hrm]
      rfl
    rintro ⟨c, Z⟩ ⟨hc, hZ8, hZ⟩
    have hZm : (Z.map (V.int .i64)).length = Z.length := by simp
    by_cases hc8 : c < 8
    · obtain ⟨x, hx⟩ : ∃ x, row[c]? = some x := ⟨_, List.getElem?_eq_getElem (by omega)⟩
      obtain ⟨hx0, hx1⟩ := hxr x (List.mem_of_getElem? hx)
      have hZc : Z[c]? = some x := by rw [hZ, List.getElem?_append_right (by simp; omega)]; simp; rw [Nat.min_eq_left (by omega)]; simpa using hx
      have hnx : Z.set c (x + (X.length : Int)) = (row.take (c + 1)).map (· + (X.length : Int)) ++ row.drop (c + 1) := by
        rw [hZ, List.set_append_right _ _ (by simp; omega), List.take_add_one, hx, List.map_append, List.append_assoc, List.drop_eq_getElem_cons (show c < row.length by omega)]
        have hl : ((row.take c).map (· + (X.length : Int))).length = c := by simp; omega
        rw [hl, Nat.sub_self, List.set_cons_zero]
        rfl
      have hZZ : (Z.map (V.int .i64))[0 + Int.toNat (c : Int)]? = some (.int .i64 x) := by rw [Nat.zero_add, Int.toNat_natCast, List.getElem?_map, hZc]; rfl
      conv => whnf
      repeat' (first | (refine brd_t (by first | assumption | omega) ?_; conv => whnf) | (refine brd_f (by first | assumption | omega) ?_; conv => whnf) | (refine ask (by first | assumption | omega) ?_; conv => whnf) | (refine fit64 (by omega) ?_; conv => whnf) | (refine fit (by simp only [kmin, kmax]; omega) ?_; conv => whnf) | (refine br_t (by assumption) ?_; conv => whnf) | (refine br_f (by assumption) ?_; conv => whnf) | (refine get_of (by assumption) ?_; conv => whnf) | (refine get_map (by assumption) ?_; conv => whnf) | (refine get_of hZZ ?_; conv => whnf) | (refine draw_lex hE ?_ ?_; decide +kernel; conv => whnf) | (refine draw_any hE [⟨3, [(0, none), (1, none), (3, none), (4, none), (2, some 0), (5, some 1), (6, none), (7, some 2)], some 8, [], [[]]⟩] ?_ ?_; decide +kernel; conv => whnf) | (refine draw_any hE [⟨1, [(0, none), (1, none), (2, none), (3, none), (4, none), (5, none), (6, none), (7, some 0)], some 8, [], [[]]⟩, ⟨0, [(9, none)], some 10, [], [[]]⟩] ?_ ?_; decide +kernel; conv => whnf) | (refine brd (fun h => ?_) (fun h => ?_) <;> conv => whnf) | (refine br (fun h => ?_) (fun h => ?_) <;> conv => whnf) | (refine ret_now hE ?_; conv => whnf) | (intro hlen; conv => whnf) | (refine seg_here ?_; conv => whnf) | (refine both ?_ ?_ <;> conv => whnf))
      refine next_keep [7, 8, 9, 10, 12, 37, 38, 39, 47, 48] (c + 1, Z.set c (x + (X.length : Int))) ⟨hc8, by simp [hZ8], hnx⟩ (by show 8 - (c + 1) < 8 - c; omega) ?_
      conv => whnf
      rw [Nat.zero_add, Int.toNat_natCast, ← List.map_set]
      have hl2 : Z.length = (Z.set c (x + (X.length : Int))).length := by simp
      rw [hl2]
      rfl
    · have hZe : Z = row.map (· + (X.length : Int)) := by rw [hZ, show c = 8 by omega, List.take_of_length_le (by omega), List.drop_eq_nil_of_le (by omega), List.append_nil]
      have hR' : R ++ [Z] = X ++ (Y.take (k + 1)).map (fun r => r.map (· + (X.length : Int))) := by
        rw [hR, hZe, List.take_add_one, hrow, List.map_append, List.append_assoc]
        rfl
      have hG' : G ++ [g] = P ++ Q.take (k + 1) := by
        rw [hG, List.take_add_one, hg, List.append_assoc]
        rfl
      cases g
      all_goals
        conv => whnf
        repeat' (first | (refine brd_t (by first | assumption | omega) ?_; conv => whnf) | (refine brd_f (by first | assumption | omega) ?_; conv => whnf) | (refine ask (by first | assumption | omega) ?_; conv => whnf) | (refine fit64 (by omega) ?_; conv => whnf) | (refine fit (by simp only [kmin, kmax]; omega) ?_; conv => whnf) | (refine br_t (by assumption) ?_; conv => whnf) | (refine br_f (by assumption) ?_; conv => whnf) | (refine get_of (by assumption) ?_; conv => whnf) | (refine get_map (by assumption) ?_; conv => whnf) | (refine ask (Nat.le_refl 1) ?_; conv => whnf) | (refine ask ⟨?_, ?_, ?_⟩ ?_; (simp [killL_length] <;> omega); (show _ + 1 ≤ 9223372036854775807; omega); (show (_ + 1) * _ ≤ 140737488355328; omega); conv => whnf) | (refine draw_lex hE ?_ ?_; decide +kernel; conv => whnf) | (refine draw_any hE [⟨3, [(0, none), (1, none), (3, none), (4, none), (2, some 0), (5, some 1), (6, none), (7, some 2)], some 8, [], [[]]⟩] ?_ ?_; decide +kernel; conv => whnf) | (refine draw_any hE [⟨1, [(0, none), (1, none), (2, none), (3, none), (4, none), (5, none), (6, none), (7, some 0)], some 8, [], [[]]⟩, ⟨0, [(9, none)], some 10, [], [[]]⟩] ?_ ?_; decide +kernel; conv => whnf) | (refine brd (fun h => ?_) (fun h => ?_) <;> conv => whnf) | (refine br (fun h => ?_) (fun h => ?_) <;> conv => whnf) | (refine ret_now hE ?_; conv => whnf) | (intro hlen; conv => whnf) | (refine seg_here ?_; conv => whnf) | (refine both ?_ ?_ <;> conv => whnf))
        refine up_freeze 0 (z := 1) (els := Z.map (V.int .i64)) (congrArg (fun l => some (some (Ob.row 1 l))) ((congrArg (killL 5) (kill_nrL 4 (nr_i64s Z))).trans (kill_nrL 5 (nr_i64s Z)))) (nr_i64s Z) (next_drop [7, 8, 9, 37, 38, 39] [1, 7, 8] (k + 1, R ++ [Z], G ++ [_]) ⟨hlt, hR', hG'⟩ ?_ ?_)
        · show Y.length - (k + 1) < Y.length - k
          omega
        conv => whnf
        rw [rnd_rows R Z, rnd_bools, len_rows R Z, len_bools]
        rfl
  · have hRR : R = bothT T1 T2 := by
      rw [hR, List.take_of_length_le (by omega), lX]
      unfold bothT upT
      rw [hX, hY]
    have hGG : G = bothF F1 F2 := by
      rw [hG, List.take_of_length_le (by omega)]
      unfold bothF
      rw [hP, hQ]
    have hd := distinct_walk (T := R) (F := G) (n := T1.length + 1 + (T2.length + 1)) (by omega) (by omega) (by omega) (by omega) (by rw [hRR]; exact both_rows m1 m2)
    conv => whnf
    repeat' (first | (refine brd_t (by first | assumption | omega) ?_; conv => whnf) | (refine brd_f (by first | assumption | omega) ?_; conv => whnf) | (refine ask (by first | assumption | omega) ?_; conv => whnf) | (refine fit64 (by omega) ?_; conv => whnf) | (refine fit (by simp only [kmin, kmax]; omega) ?_; conv => whnf) | (refine br_t (by assumption) ?_; conv => whnf) | (refine br_f (by assumption) ?_; conv => whnf) | (refine get_of (by assumption) ?_; conv => whnf) | (refine get_map (by assumption) ?_; conv => whnf) | (refine draw_lex hE ?_ ?_; decide +kernel; conv => whnf) | (refine draw_any hE [⟨3, [(0, none), (1, none), (3, none), (4, none), (2, some 0), (5, some 1), (6, none), (7, some 2)], some 8, [], [[]]⟩] ?_ ?_; decide +kernel; conv => whnf) | (refine draw_any hE [⟨1, [(0, none), (1, none), (2, none), (3, none), (4, none), (5, none), (6, none), (7, some 0)], some 8, [], [[]]⟩, ⟨0, [(9, none)], some 10, [], [[]]⟩] ?_ ?_; decide +kernel; conv => whnf) | (refine brd (fun h => ?_) (fun h => ?_) <;> conv => whnf) | (refine br (fun h => ?_) (fun h => ?_) <;> conv => whnf) | (refine ret_now hE ?_; conv => whnf) | (intro hlen; conv => whnf) | (refine seg_here ?_; conv => whnf) | (refine both ?_ ?_ <;> conv => whnf))
    refine call_up (up_freeze 4 (z := 1) (els := R.map ints) rfl (nr_rows R) (up_freeze 5 (z := 1) (els := G.map V.bool) (congrArg (fun l => some (some (Ob.row 1 l))) (frz_nrL _ _ (nr_bools G))) (nr_bools G)
      (up_at [8, 76] (σ' := ⟨84, [(8, .int .i64 X.length), (76, .agg [.lst (R.map ints), .lst (G.map V.bool)])], [none, none, none, none, none, none, some (.row 2 [.agg [.lst (R.map ints), .lst (G.map V.bool)]])]⟩) ?_ ?_)))
    · show (⟨84, [(8, .int .i64 X.length), (76, .agg [((V.sl 4 0 R.length).frz 4 (R.map ints)).frz 5 (G.map V.bool), ((V.sl 5 0 G.length).frz 4 (R.map ints)).frz 5 (G.map V.bool)])], [none, none, none, none, none, none, some (.row 2 [.agg [((V.sl 4 0 R.length).frz 4 (R.map ints)).frz 5 (G.map V.bool), ((V.sl 5 0 G.length).frz 4 (R.map ints)).frz 5 (G.map V.bool)]])]⟩ : ES) = _
      rw [frz_self 4 (R.map ints) hRm.symm, frz_otherS (i := 5) _ (by decide), frz_self 5 _ hGm.symm]
      rfl
    conv => whnf
    refine call_fn hd hC hasBody_13 ?_ ?_ ?_
    · kernel_rfl
    · kernel_rfl
    intro r hr
    obtain ⟨D, rfl, hsq, htab⟩ := hr
    rw [hRR, hGG] at htab
    have hbs := both_same m1 m2 htab
    rw [← hb] at hbs
    obtain ⟨r0, hr0, hr0l, hr0n⟩ := hsq.get2 (i := 0) (k := T1.length + 1) (by omega) (by omega)
    have hDm : ((D.map fun r => r.map V.bool).map V.lst).length = D.length := by simp
    have hDl := hsq.len
    have hrm0 : (r0.map V.bool).length = r0.length := by simp
    have g1 : ((D.map fun r => r.map V.bool).map V.lst)[Int.toNat 0]? = some (.lst (r0.map V.bool)) := by
      show ((D.map fun r => r.map V.bool).map V.lst)[0]? = _
      rw [List.getElem?_map, List.getElem?_map, hr0]
      rfl
    have g2 : (r0.map V.bool)[Int.toNat (X.length : Int)]? = some (.bool (!b)) := by
      rw [Int.toNat_natCast, lX, List.getElem?_map, hr0n]
      have : at2 D 0 (T1.length + 1) = !b := by
        generalize at2 D 0 (T1.length + 1) = q at hbs
        clear hd
        cases q <;> cases b <;> simp_all
      rw [this]
      rfl
    conv => whnf
    cases b
    all_goals
      repeat' (first | (refine brd_t (by first | assumption | omega) ?_; conv => whnf) | (refine brd_f (by first | assumption | omega) ?_; conv => whnf) | (refine ask (by first | assumption | omega) ?_; conv => whnf) | (refine fit64 (by omega) ?_; conv => whnf) | (refine fit (by simp only [kmin, kmax]; omega) ?_; conv => whnf) | (refine br_t (by assumption) ?_; conv => whnf) | (refine br_f (by assumption) ?_; conv => whnf) | (refine get_of (by assumption) ?_; conv => whnf) | (refine get_map (by assumption) ?_; conv => whnf) | (refine get_of g1 ?_; conv => whnf) | (refine get_of g2 ?_; conv => whnf) | (refine draw_lex hE ?_ ?_; decide +kernel; conv => whnf) | (refine draw_any hE [⟨3, [(0, none), (1, none), (3, none), (4, none), (2, some 0), (5, some 1), (6, none), (7, some 2)], some 8, [], [[]]⟩] ?_ ?_; decide +kernel; conv => whnf) | (refine draw_any hE [⟨1, [(0, none), (1, none), (2, none), (3, none), (4, none), (5, none), (6, none), (7, some 0)], some 8, [], [[]]⟩, ⟨0, [(9, none)], some 10, [], [[]]⟩] ?_ ?_; decide +kernel; conv => whnf) | (refine brd (fun h => ?_) (fun h => ?_) <;> conv => whnf) | (refine br (fun h => ?_) (fun h => ?_) <;> conv => whnf) | (refine ret_now hE ?_; conv => whnf) | (intro hlen; conv => whnf) | (refine seg_here ?_; conv => whnf) | (refine both ?_ ?_ <;> conv => whnf))
      all_goals first | exact ⟨rfl, rfl⟩ | trace_state
end Go.Proofs.Ytmjglpdfkkmcoaa
