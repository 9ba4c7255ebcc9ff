/- The document's total machine of a machine, walked. No conditions. -/
import Derived.Test.YtmjglpdfkkmcoaaSmStep
import Derived.Test.YtmjglpdfkkmcoaaOwnF
import Derived.Test.YtmjglpdfkkmcoaaCell2
set_option linter.unusedSimpArgs false
set_option linter.unusedVariables false
set_option maxRecDepth 100000
namespace Go.Proofs.Ytmjglpdfkkmcoaa
open Go.RowKit

def deadS (n : Nat) (x : Int) : Int := if x < 0 then n else x
def totT (T : List (List Int)) : List (List Int) := T.map (fun r => r.map (deadS T.length)) ++ [List.replicate 8 (T.length : Int)]
def totF (F : List Bool) : List Bool := F ++ [false]
def totV (T : List (List Int)) (F : List Bool) : V := .agg [.lst (T.map ints), .lst (F.map V.bool)]
theorem nr_i64s : ∀ L : List Int, nrL (L.map (V.int .i64))
  | [] => trivial
  | x :: L => ⟨trivial, nr_i64s L⟩
theorem nr_rows : ∀ N : List (List Int), nrL (N.map ints)
  | [] => trivial
  | r :: N => ⟨trivial, nr_rows N⟩
theorem frzL_join (id : Nat) (els : List V) : ∀ a b : List V, frzL id els (a ++ b) = frzL id els a ++ frzL id els b
  | [], b => by simp [frzL]
  | x :: a, b => by simp [frzL, frzL_join id els a b]
theorem killL_join (id : Nat) : ∀ a b : List V, killL id (a ++ b) = killL id a ++ killL id b
  | [], b => by simp [killL]
  | x :: a, b => by simp [killL, killL_join id a b]
theorem cells_i64 (l : List Int) : ∀ y, y ∈ l.map (V.int .i64) → y.cells.length = 1 := fun y hy => by
  obtain ⟨x, _, rfl⟩ := List.mem_map.1 hy
  rfl
theorem cells_bool (l : List Bool) : ∀ y, y ∈ l.map V.bool → y.cells.length = 1 := fun y hy => by
  obtain ⟨x, _, rfl⟩ := List.mem_map.1 hy
  rfl
theorem frz_round (i j : Nat) (hi : i ≠ 3) (X : List Int) (R : List (List Int)) : killL j (frzL 3 (X.map (V.int .i64)) (killL i (List.take R.length (List.drop 0 (R.map ints)) ++ List.take 1 (List.drop 0 [V.sl 3 0 X.length])))) = (R ++ [X]).map ints := by
  have e : killL i (List.take R.length (List.drop 0 (R.map ints)) ++ List.take 1 (List.drop 0 [V.sl 3 0 X.length])) = R.map ints ++ [V.sl 3 0 X.length] := by
    rw [List.drop_zero, List.take_of_length_le (by simp), killL_join, kill_nrL _ (nr_rows R)]
    show _ ++ killL i [V.sl 3 0 X.length] = _
    simp [killL, V.kill, Ne.symm hi]
  have e2 : frzL 3 (X.map (V.int .i64)) [V.sl 3 0 X.length] = [ints X] := by
    simp [frzL, V.frz, ints]
    rw [List.take_of_length_le (by simp)]
  rw [e, frzL_join, frz_nrL _ _ (nr_rows R), e2, show R.map ints ++ [ints X] = (R ++ [X]).map ints by rw [List.map_append]; rfl, kill_nrL _ (nr_rows _)]
theorem len_round (X : List Int) (R : List (List Int)) : R.length + (List.take 1 (List.drop 0 [V.sl 3 0 X.length])).length = (R ++ [X]).length := by
  rw [List.length_append]
  rfl
theorem frz_last (i j : Nat) (hi : i ≠ 3) (hj : j ≠ 3) (X : List Int) (R : List (List Int)) : frzL 3 (X.map (V.int .i64)) (killL j (killL i (List.take R.length (List.drop 0 (R.map ints)) ++ List.take 1 (List.drop 0 [V.sl 3 0 X.length])))) = (R ++ [X]).map ints := by
  have e : killL j (killL i (List.take R.length (List.drop 0 (R.map ints)) ++ List.take 1 (List.drop 0 [V.sl 3 0 X.length]))) = R.map ints ++ [V.sl 3 0 X.length] := by
    rw [List.drop_zero, List.take_of_length_le (by simp), killL_join, kill_nrL _ (nr_rows R), killL_join, kill_nrL _ (nr_rows R)]
    show _ ++ killL j (killL i [V.sl 3 0 X.length]) = _
    simp [killL, V.kill, Ne.symm hi, Ne.symm hj]
  have e2 : frzL 3 (X.map (V.int .i64)) [V.sl 3 0 X.length] = [ints X] := by
    simp [frzL, V.frz, ints]
    rw [List.take_of_length_le (by simp)]
  rw [e, frzL_join, frz_nrL _ _ (nr_rows R), e2, List.map_append]
  rfl
theorem nr_bools : ∀ L : List Bool, nrL (L.map V.bool)
  | [] => trivial
  | _ :: L => ⟨trivial, nr_bools L⟩
theorem frz_finals (els : List V) (F : List Bool) : frzL 3 els (killL 5 (List.take (F.map V.bool).length (List.drop 0 (F.map V.bool)) ++ List.take 1 (List.drop 0 [V.bool false]))) = (F ++ [false]).map V.bool := by
  rw [List.drop_zero, List.take_of_length_le (by simp)]
  show frzL 3 els (killL 5 (F.map V.bool ++ [false].map V.bool)) = _
  rw [← List.map_append, kill_nrL _ (nr_bools _), frz_nrL _ _ (nr_bools _)]
set_option maxHeartbeats 8000000 in
theorem total_of {T : List (List Int)} {F : List Bool} (h : mayOk T F = true) : Fn1 Try.prog 12 [autoV T F] (fun r => r = totV (totT T) (totF F)) := by
  obtain ⟨h1, h40, hF, hr⟩ := may_parts h
  have hTm : (T.map ints).length = T.length := by simp
  have hFm : (F.map V.bool).length = F.length := by simp
  unfold autoV
  refine fn1E (T := Try.tt) Try.func12 rfl tt_all follows_all ?_ ?_ fun C hC hE => ?_
  · kernel_rfl
  · exact Nat.le_of_ble_eq_true (by kernel_rfl)
  conv => whnf
  repeat' (first | (refine brd_t (by first | assumption | omega) ?_; conv => whnf) | (refine brd_f (by first | assumption | omega) ?_; conv => whnf) | (refine ask (by first | assumption | omega) ?_; conv => whnf) | (refine fit64 (by omega) ?_; conv => whnf) | (refine fit (by simp only [kmin, kmax]; omega) ?_; conv => whnf) | (refine br_t (by assumption) ?_; conv => whnf) | (refine br_f (by assumption) ?_; conv => whnf) | (refine get_of (by assumption) ?_; conv => whnf) | (refine get_map (by assumption) ?_; conv => whnf) | (refine draw_lex hE ?_ ?_; decide +kernel; conv => whnf) | (refine brd (fun h => ?_) (fun h => ?_) <;> conv => whnf) | (refine br (fun h => ?_) (fun h => ?_) <;> conv => whnf) | (refine ret_now hE ?_; conv => whnf) | (intro hlen; conv => whnf) | (refine seg_here ?_; conv => whnf) | (refine both ?_ ?_ <;> conv => whnf))
  refine loopE (fun ((k, R) : Nat × List (List Int)) => ⟨66, [(1, .rp [.lst (T.map ints), .lst (F.map V.bool)]), (2, .ptr 1 0 0), (3, .ptr 2 0 0), (4, .int .i64 (T.map ints).length), (13, .lst (T.map ints)), (14, .int .i64 (T.map ints).length), (15, .int .i64 k)],
      [some (.row 1 (R.map ints)), some (.row 2 [.agg [.nils, .nils]]), some (.row 2 [.agg [.sl 0 0 R.length, .nils]])]⟩)
    (fun (k, R) => k ≤ T.length ∧ R = (T.take k).map (fun r => r.map (deadS T.length))) (fun (k, _) => T.length - k) (0, []) hE ?_ ?_ ⟨Nat.zero_le _, rfl⟩ ?_
  · kernel_rfl
  · refine up_freeze 0 (z := 2) (els := [autoV T F]) rfl ⟨⟨trivial, trivial, trivial⟩, trivial⟩ (up_ownF 2 0 1 rfl rfl (at_keep [1, 2, 3, 4, 13, 14, 15] ?_))
    conv => whnf
    rfl
  rintro ⟨k, R⟩ ⟨hk, hR⟩
  have hRl : R.length = k := by rw [hR]; simp; omega
  have hRm : (R.map ints).length = R.length := by simp
  by_cases hlt : k < T.length
  · obtain ⟨row, hrow⟩ : ∃ x, T[k]? = some x := ⟨_, List.getElem?_eq_getElem hlt⟩
    obtain ⟨h8, _⟩ := hr row (List.mem_of_getElem? hrow)
    have hrm : (row.map (V.int .i64)).length = row.length := by simp
    conv => whnf
    repeat' (first | (refine brd_t (by first | assumption | omega) ?_; conv => whnf) | (refine brd_f (by first | assumption | omega) ?_; conv => whnf) | (refine ask (by first | assumption | omega) ?_; conv => whnf) | (refine fit64 (by omega) ?_; conv => whnf) | (refine fit (by simp only [kmin, kmax]; omega) ?_; conv => whnf) | (refine br_t (by assumption) ?_; conv => whnf) | (refine br_f (by assumption) ?_; conv => whnf) | (refine get_of (by assumption) ?_; conv => whnf) | (refine get_map (by assumption) ?_; conv => whnf) | (refine ⟨cells_i64 row, ?_⟩; conv => whnf) | (refine draw_lex hE ?_ ?_; decide +kernel; conv => whnf) | (refine brd (fun h => ?_) (fun h => ?_) <;> conv => whnf) | (refine br (fun h => ?_) (fun h => ?_) <;> conv => whnf) | (refine ret_now hE ?_; conv => whnf) | (intro hlen; conv => whnf) | (refine seg_here ?_; conv => whnf) | (refine both ?_ ?_ <;> conv => whnf))
    refine loopE (fun ((c, X) : Nat × List Int) => ⟨66, [(1, .rp [.lst (T.map ints), .lst (F.map V.bool)]), (2, .ptr 1 0 0), (3, .ptr 2 0 0), (4, .int .i64 (T.map ints).length), (7, .sl 3 0 X.length), (13, .lst (T.map ints)), (14, .int .i64 (T.map ints).length), (15, .int .i64 k), (22, .int .i64 X.length), (23, .int .i64 c)],
        [some (.row 1 (R.map ints)), some (.row 2 [.agg [.nils, .nils]]), some (.row 2 [.agg [.sl 0 0 R.length, .nils]]), some (.row 1 (X.map (V.int .i64)))]⟩)
      (fun (c, X) => c ≤ 8 ∧ X.length = 8 ∧ X = (row.take c).map (deadS T.length) ++ row.drop c) (fun (c, _) => 8 - c) (0, row) hE ?_ ?_ ⟨Nat.zero_le _, h8, rfl⟩ ?_
    · kernel_rfl
    · refine at_keep [1, 2, 3, 4, 7, 13, 14, 15, 22, 23] ?_
      conv => whnf
      rw [hrm]
      rfl
    rintro ⟨c, X⟩ ⟨hc, hX8, hX⟩
    have hXm : (X.map (V.int .i64)).length = X.length := by simp
    by_cases hc8 : c < 8
    · obtain ⟨x, hx⟩ : ∃ x, row[c]? = some x := ⟨_, List.getElem?_eq_getElem (by omega)⟩
      have hXc : X[c]? = some x := by rw [hX, List.getElem?_append_right (by simp; omega)]; simp; rw [Nat.min_eq_left (by omega)]; simpa using hx
      have hnx : X.set c (deadS T.length x) = (row.take (c + 1)).map (deadS T.length) ++ row.drop (c + 1) := by
        rw [hX, List.set_append_right _ _ (by simp; omega), List.take_add_one, hx, List.map_append, List.append_assoc, List.drop_eq_getElem_cons (show c < row.length by omega)]
        have : row[c] = x := by rw [List.getElem?_eq_getElem (by omega)] at hx; simpa using hx
        simp [Nat.min_eq_left (show c ≤ row.length by omega), this]
      have hXX : (X.map (V.int .i64))[0 + Int.toNat (c : Int)]? = some (.int .i64 x) := by rw [Nat.zero_add, Int.toNat_natCast, List.getElem?_map, hXc]; rfl
      by_cases hx0 : x < 0
      · have e : deadS T.length x = T.length := by simp [deadS, hx0]
        conv => whnf
        repeat' (first | (refine brd_t (by first | assumption | omega) ?_; conv => whnf) | (refine brd_f (by first | assumption | omega) ?_; conv => whnf) | (refine ask (by first | assumption | omega) ?_; conv => whnf) | (refine fit64 (by omega) ?_; conv => whnf) | (refine fit (by simp only [kmin, kmax]; omega) ?_; conv => whnf) | (refine br_t (by assumption) ?_; conv => whnf) | (refine br_f (by assumption) ?_; conv => whnf) | (refine get_of (by assumption) ?_; conv => whnf) | (refine get_map (by assumption) ?_; conv => whnf) | (refine get_of hXX ?_; conv => whnf) | (refine draw_lex hE ?_ ?_; decide +kernel; conv => whnf) | (refine brd (fun h => ?_) (fun h => ?_) <;> conv => whnf) | (refine br (fun h => ?_) (fun h => ?_) <;> conv => whnf) | (refine ret_now hE ?_; conv => whnf) | (intro hlen; conv => whnf) | (refine seg_here ?_; conv => whnf) | (refine both ?_ ?_ <;> conv => whnf))
        refine next_keep [1, 2, 3, 4, 7, 13, 14, 15, 22, 23] (c + 1, X.set c (deadS T.length x)) ⟨by omega, by simp [hX8], hnx⟩ (by show 8 - (c + 1) < 8 - c; omega) ?_
        conv => whnf
        rw [Nat.zero_add, Int.toNat_natCast, hTm, ← hXm, ← List.map_set, ← e]
        have hl2 : (X.map (V.int .i64)).length = (X.set c (deadS T.length x)).length := by simp
        rw [hl2, e, hTm.symm]
        rfl
      · have e : deadS T.length x = x := by simp [deadS, hx0]
        have hs : X.set c x = X := by
          apply List.ext_getElem?
          intro j
          rw [List.getElem?_set]
          split
          · rename_i e; subst e; rw [if_pos (by omega), hXc]
          · rfl
        rw [e, hs] at hnx
        conv => whnf
        repeat' (first | (refine brd_t (by first | assumption | omega) ?_; conv => whnf) | (refine brd_f (by first | assumption | omega) ?_; conv => whnf) | (refine ask (by first | assumption | omega) ?_; conv => whnf) | (refine fit64 (by omega) ?_; conv => whnf) | (refine fit (by simp only [kmin, kmax]; omega) ?_; conv => whnf) | (refine br_t (by assumption) ?_; conv => whnf) | (refine br_f (by assumption) ?_; conv => whnf) | (refine get_of (by assumption) ?_; conv => whnf) | (refine get_map (by assumption) ?_; conv => whnf) | (refine get_of hXX ?_; conv => whnf) | (refine draw_lex hE ?_ ?_; decide +kernel; conv => whnf) | (refine brd (fun h => ?_) (fun h => ?_) <;> conv => whnf) | (refine br (fun h => ?_) (fun h => ?_) <;> conv => whnf) | (refine ret_now hE ?_; conv => whnf) | (intro hlen; conv => whnf) | (refine seg_here ?_; conv => whnf) | (refine both ?_ ?_ <;> conv => whnf))
        refine next_keep [1, 2, 3, 4, 7, 13, 14, 15, 22, 23] (c + 1, X) ⟨by omega, hX8, hnx⟩ (by show 8 - (c + 1) < 8 - c; omega) ?_
        conv => whnf
        rfl
    · conv => whnf
      repeat' (first | (refine brd_t (by first | assumption | omega) ?_; conv => whnf) | (refine brd_f (by first | assumption | omega) ?_; conv => whnf) | (refine ask (by first | assumption | omega) ?_; conv => whnf) | (refine fit64 (by omega) ?_; conv => whnf) | (refine fit (by simp only [kmin, kmax]; omega) ?_; conv => whnf) | (refine br_t (by assumption) ?_; conv => whnf) | (refine br_f (by assumption) ?_; conv => whnf) | (refine get_of (by assumption) ?_; conv => whnf) | (refine get_map (by assumption) ?_; conv => whnf) | (refine ask (Nat.le_refl 1) ?_; conv => whnf) | (refine ask ⟨?_, ?_, ?_⟩ ?_; (simp <;> omega); (show _ + 1 ≤ 9223372036854775807; omega); (show (_ + 1) * _ ≤ 140737488355328; omega); conv => whnf) | (refine draw_lex hE ?_ ?_; decide +kernel; conv => whnf) | (refine brd (fun h => ?_) (fun h => ?_) <;> conv => whnf) | (refine br (fun h => ?_) (fun h => ?_) <;> conv => whnf) | (refine ret_now hE ?_; conv => whnf) | (intro hlen; conv => whnf) | (refine seg_here ?_; conv => whnf) | (refine both ?_ ?_ <;> conv => whnf))
      have hXe : X = row.map (deadS T.length) := by rw [hX, show c = 8 by omega, List.take_of_length_le (by omega), List.drop_eq_nil_of_le (by omega), List.append_nil]
      refine up_freeze 3 (z := 1) (els := X.map (V.int .i64)) (congrArg (fun l => some (some (Ob.row 1 l))) (kill_nrL 0 (nr_i64s X))) (nr_i64s X) (next_drop [1, 2, 3, 4, 13, 14, 15] [4] (k + 1, R ++ [X]) ⟨by omega, ?_⟩ ?_ ?_)
      · rw [hR, hXe, List.take_add_one, hrow, List.map_append]
        rfl
      · show T.length - (k + 1) < T.length - k
        omega
      conv => whnf
      rw [len_round, frz_round 0 4 (by decide)]
      rfl
  · conv => whnf
    repeat' (first | (refine brd_t (by first | assumption | omega) ?_; conv => whnf) | (refine brd_f (by first | assumption | omega) ?_; conv => whnf) | (refine ask (by first | assumption | omega) ?_; conv => whnf) | (refine fit64 (by omega) ?_; conv => whnf) | (refine fit (by simp only [kmin, kmax]; omega) ?_; conv => whnf) | (refine br_t (by assumption) ?_; conv => whnf) | (refine br_f (by assumption) ?_; conv => whnf) | (refine get_of (by assumption) ?_; conv => whnf) | (refine get_map (by assumption) ?_; conv => whnf) | (refine ⟨cells_bool F, ?_⟩; conv => whnf) | (refine ret_up (up_freeze 3 (z := 1) (els := List.replicate 8 (.int .i64 (T.map ints).length)) rfl ⟨trivial, trivial, trivial, trivial, trivial, trivial, trivial, trivial, trivial⟩ (up_cell2 1 2 0 5 (za := 1) (zb := 1) (la := (totT T).map ints) (lb := (totF F).map V.bool) rfl rfl ?_ ?_ (by decide) (by decide) (by decide) (nr_rows _) (nr_bools _) ?_ ?_ (up_here ?_)))) | (refine ask (Nat.le_refl 1) ?_; conv => whnf) | (refine ask ⟨?_, ?_, ?_⟩ ?_; (simp <;> omega); (show _ + 1 ≤ 9223372036854775807; omega); (show (_ + 1) * _ ≤ 140737488355328; omega); conv => whnf) | (refine draw_lex hE ?_ ?_; decide +kernel; conv => whnf) | (refine brd (fun h => ?_) (fun h => ?_) <;> conv => whnf) | (refine br (fun h => ?_) (fun h => ?_) <;> conv => whnf) | (refine ret_now hE ?_; conv => whnf) | (intro hlen; conv => whnf) | (refine seg_here ?_; conv => whnf) | (refine both ?_ ?_ <;> conv => whnf))
    all_goals have hRT : R = T.map (fun r => r.map (deadS T.length)) := by rw [hR, List.take_of_length_le (by omega)]
    all_goals have hTT : totT T = R ++ [List.replicate 8 (T.length : Int)] := by rw [hRT]; rfl
    · refine Eq.trans (b := some (some (Ob.row 1 (frzL 3 ((List.replicate 8 (T.length : Int)).map (V.int .i64)) (killL 5 (killL 0 (List.take R.length (List.drop 0 (R.map ints)) ++ List.take 1 (List.drop 0 [V.sl 3 0 (List.replicate 8 (T.length : Int)).length])))))))) (by rw [hTm]; rfl) ?_
      rw [frz_last 0 5 (by decide) (by decide), hTT]
    · exact congrArg (fun l => some (some (Ob.row 1 l))) (frz_finals _ F)
    · rw [hTT, List.length_map, List.length_append]
      rfl
    · unfold totF
      rw [List.length_map, List.length_map, List.length_append]
      rfl
    · exact ⟨rfl, rfl⟩
end Go.Proofs.Ytmjglpdfkkmcoaa
