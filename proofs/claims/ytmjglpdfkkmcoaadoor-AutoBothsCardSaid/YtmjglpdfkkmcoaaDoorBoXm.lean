/- The document's merging and order, walked. No conditions. -/
import Derived.Test.YtmjglpdfkkmcoaaDoorBoXe
import Derived.Test.YtmjglpdfkkmcoaaDoorBoXd
import Derived.Test.YtmjglpdfkkmcoaaDoorBoXb
/-! The document's merging and order, walked. No conditions. -/
set_option linter.unusedSimpArgs false
set_option linter.unusedVariables false
set_option maxRecDepth 100000
namespace Go.Proofs.YtmjglpdfkkmcoaaDoor
open Go.RowKit

theorem fst_walk {T : List (List Int)} {F : List Bool} {n : Nat} {D : List (List Bool)} (hw : WF n T F) (hT : Tab (nxT T) (fnF F) n (at2 D)) (hs : Sq n D) (hn2 : n ≤ 1048576) {i : Nat} (hi : i < n) :
    Fn1 Tryd.prog 42 [.int .i64 i, .rp [.lst ((D.map (fun r => r.map V.bool)).map V.lst)]] (fun r => r = .int .i64 (fstD D i : Nat)) := by
  obtain ⟨f1, f2, f3⟩ := fst_ex hw hT hs hi
  have hDl : D.length = n := hs.len
  obtain ⟨row, hrow, hrl⟩ := hs.get hi
  have g1 : ((D.map (fun r => r.map V.bool)).map V.lst)[Int.toNat (i : Int)]? = some (.lst (row.map V.bool)) := by rw [Int.toNat_natCast, List.getElem?_map, List.getElem?_map, hrow]; rfl
  have hget : ∀ k, k < n → row[k]? = some (at2 D i k) := fun k hk => by
    obtain ⟨r', hr', _, h⟩ := hs.get2 hi hk
    rw [hrow] at hr'
    cases hr'
    exact h
  have hDm : ((D.map (fun r => r.map V.bool)).map V.lst).length = D.length := by simp
  have hrm : (row.map V.bool).length = row.length := by simp
  refine fn1E (T := Tryd.tt) Tryd.func42 rfl tt_all follows_all ?_ ?_ fun C hC hE => ?_
  · kernel_rfl
  · exact Nat.le_of_ble_eq_true (by kernel_rfl)
  conv => whnf
  repeat' (first | (refine brd_t (by first | assumption | omega) ?_; conv => whnf) | (refine brd_f (by first | assumption | omega) ?_; conv => whnf) | (refine ask (by first | assumption | omega) ?_; conv => whnf) | (refine fit64 (by omega) ?_; conv => whnf) | (refine fit (by simp only [kmin, kmax]; omega) ?_; conv => whnf) | (refine br_t (by assumption) ?_; conv => whnf) | (refine br_f (by assumption) ?_; conv => whnf) | (refine get_of (by assumption) ?_; conv => whnf) | (refine get_map (by assumption) ?_; conv => whnf) | (refine draw_lex hE ?_ ?_; decide +kernel; conv => whnf) | (refine brd (fun h => ?_) (fun h => ?_) <;> conv => whnf) | (refine br (fun h => ?_) (fun h => ?_) <;> conv => whnf) | (refine ret_now hE ?_; conv => whnf) | (intro hlen; conv => whnf) | (refine seg_here ?_; conv => whnf) | (refine both ?_ ?_ <;> conv => whnf))
  refine loopE (fun k : Nat => ⟨15, [(0, .int .i64 i), (1, .rp [.lst ((D.map (fun r => r.map V.bool)).map V.lst)]), (4, .int .i64 k)], []⟩) (fun k => k ≤ fstD D i) (fun k => fstD D i - k) 0 hE ?_ ?_ (Nat.zero_le _) ?_
  · kernel_rfl
  · refine at_keep [0, 1, 4] ?_
    conv => whnf
    rfl
  rintro k hk
  have g2 : (row.map V.bool)[Int.toNat (k : Int)]? = some (.bool (at2 D i k)) := by rw [Int.toNat_natCast, List.getElem?_map, hget k (by omega)]; rfl
  by_cases hlt : k < fstD D i
  · have hb := f3 k hlt
    rw [hb] at g2
    conv => whnf
    repeat' (first | (refine brd_t (by first | assumption | omega) ?_; conv => whnf) | (refine brd_f (by first | assumption | omega) ?_; conv => whnf) | (refine ask (by first | assumption | omega) ?_; conv => whnf) | (refine fit64 (by omega) ?_; conv => whnf) | (refine fit (by simp only [kmin, kmax]; omega) ?_; conv => whnf) | (refine br_t (by assumption) ?_; conv => whnf) | (refine br_f (by assumption) ?_; conv => whnf) | (refine get_of (by assumption) ?_; conv => whnf) | (refine get_map (by assumption) ?_; conv => whnf) | (refine get_of g1 ?_; conv => whnf) | (refine get_of g2 ?_; conv => whnf) | (refine draw_lex hE ?_ ?_; decide +kernel; conv => whnf) | (refine brd (fun h => ?_) (fun h => ?_) <;> conv => whnf) | (refine br (fun h => ?_) (fun h => ?_) <;> conv => whnf) | (refine ret_now hE ?_; conv => whnf) | (intro hlen; conv => whnf) | (refine seg_here ?_; conv => whnf) | (refine both ?_ ?_ <;> conv => whnf))
    refine next_keep [0, 1, 4] (k + 1) hlt (by show fstD D i - (k + 1) < fstD D i - k; omega) ?_
    conv => whnf
    rfl
  · obtain rfl : k = fstD D i := by omega
    rw [f2] at g2
    conv => whnf
    repeat' (first | (refine brd_t (by first | assumption | omega) ?_; conv => whnf) | (refine brd_f (by first | assumption | omega) ?_; conv => whnf) | (refine ask (by first | assumption | omega) ?_; conv => whnf) | (refine fit64 (by omega) ?_; conv => whnf) | (refine fit (by simp only [kmin, kmax]; omega) ?_; conv => whnf) | (refine br_t (by assumption) ?_; conv => whnf) | (refine br_f (by assumption) ?_; conv => whnf) | (refine get_of (by assumption) ?_; conv => whnf) | (refine get_map (by assumption) ?_; conv => whnf) | (refine get_of g1 ?_; conv => whnf) | (refine get_of g2 ?_; conv => whnf) | (refine draw_lex hE ?_ ?_; decide +kernel; conv => whnf) | (refine brd (fun h => ?_) (fun h => ?_) <;> conv => whnf) | (refine br (fun h => ?_) (fun h => ?_) <;> conv => whnf) | (refine ret_now hE ?_; conv => whnf) | (intro hlen; conv => whnf) | (refine seg_here ?_; conv => whnf) | (refine both ?_ ?_ <;> conv => whnf))
    exact ⟨rfl, rfl⟩
set_option maxHeartbeats 16000000 in
theorem merged_of {T0 : List (List Int)} {F0 : List Bool} {n0 : Nat} (hWF0 : WF n0 T0 F0) (h10 : 1 ≤ n0) (hn0 : n0 ≤ 1048576) :
    Fn1 Tryd.prog 29 [totV T0 F0] (OrdR (lngT T0 F0 0)) := by
  have hmet := met_of hWF0 h10 hn0
  have e1 : ∀ R : List (List Int), List.take R.length (List.drop 0 (R.map ints)) = R.map ints := fun R => by rw [List.drop_zero, List.take_of_length_le (by simp)]
  have e2 : ∀ G : List Bool, List.take G.length (List.drop 0 (G.map V.bool)) = G.map V.bool := fun G => by rw [List.drop_zero, List.take_of_length_le (by simp)]
  unfold totV at hmet ⊢
  refine fn1E (T := Tryd.tt) Tryd.func29 rfl tt_all follows_all ?_ ?_ fun C hC hE => ?_
  · kernel_rfl
  · exact Nat.le_of_ble_eq_true (by kernel_rfl)
  conv => whnf
  repeat' (first | (refine brd_t (by first | assumption | omega) ?_; conv => whnf) | (refine brd_f (by first | assumption | omega) ?_; conv => whnf) | (refine ask (by first | assumption | omega) ?_; conv => whnf) | (refine fit64 (by omega) ?_; conv => whnf) | (refine fit (by simp only [kmin, kmax]; omega) ?_; conv => whnf) | (refine br_t (by assumption) ?_; conv => whnf) | (refine br_f (by assumption) ?_; conv => whnf) | (refine get_of (by assumption) ?_; conv => whnf) | (refine get_map (by assumption) ?_; conv => whnf) | (refine draw_lex hE ?_ ?_; decide +kernel; conv => whnf) | (refine draw_any hE [⟨0, [(0, none), (1, none), (2, none), (3, none), (4, none), (5, none), (6, none), (7, none), (8, none), (9, none)], none, [], [[]], []⟩] ?_ ?_; decide +kernel; conv => whnf) | (refine draw_any hE [⟨1, [(0, none), (1, none), (2, none), (3, none), (4, none), (5, none), (6, none), (7, none), (8, none), (9, none), (10, some 0)], some 11, [], [[]], []⟩, ⟨0, [(12, none)], some 13, [], [[]], []⟩] ?_ ?_; decide +kernel; conv => whnf) | (refine brd (fun h => ?_) (fun h => ?_) <;> conv => whnf) | (refine br (fun h => ?_) (fun h => ?_) <;> conv => whnf) | (refine ret_now hE ?_; conv => whnf) | (intro hlen; conv => whnf) | (refine seg_here ?_; conv => whnf) | (refine both ?_ ?_ <;> conv => whnf))
  refine call_fn hmet hC hasBody_40 ?_ ?_ ?_
  · kernel_rfl
  · kernel_rfl
  intro r hr
  obtain ⟨n, T, F, rfl, hWF, h1, hmn, hlng⟩ := hr
  rw [← hlng]
  clear hmet hlng
  have hn2 : n ≤ 1048576 := by omega
  have hTm : (T.map ints).length = T.length := by simp
  have hFm : (F.map V.bool).length = F.length := by simp
  have hTl := hWF.lenN
  have hFl := hWF.lenF
  have hnx : ∀ i c, i < n → c < 8 → nxT T i c < n := fun i c hi hc => hWF.nx hi hc
  have hdis := distinct_walk hTl hFl h1 hn2 hWF.rows
  unfold totV at hdis
  conv => whnf
  repeat' (first | (refine brd_t (by first | assumption | omega) ?_; conv => whnf) | (refine brd_f (by first | assumption | omega) ?_; conv => whnf) | (refine ask (by first | assumption | omega) ?_; conv => whnf) | (refine fit64 (by omega) ?_; conv => whnf) | (refine fit (by simp only [kmin, kmax]; omega) ?_; conv => whnf) | (refine br_t (by assumption) ?_; conv => whnf) | (refine br_f (by assumption) ?_; conv => whnf) | (refine get_of (by assumption) ?_; conv => whnf) | (refine get_map (by assumption) ?_; conv => whnf) | (refine draw_lex hE ?_ ?_; decide +kernel; conv => whnf) | (refine draw_any hE [⟨0, [(0, none), (1, none), (2, none), (3, none), (4, none), (5, none), (6, none), (7, none), (8, none), (9, none)], none, [], [[]], []⟩] ?_ ?_; decide +kernel; conv => whnf) | (refine draw_any hE [⟨1, [(0, none), (1, none), (2, none), (3, none), (4, none), (5, none), (6, none), (7, none), (8, none), (9, none), (10, some 0)], some 11, [], [[]], []⟩, ⟨0, [(12, none)], some 13, [], [[]], []⟩] ?_ ?_; decide +kernel; conv => whnf) | (refine brd (fun h => ?_) (fun h => ?_) <;> conv => whnf) | (refine br (fun h => ?_) (fun h => ?_) <;> conv => whnf) | (refine ret_now hE ?_; conv => whnf) | (intro hlen; conv => whnf) | (refine seg_here ?_; conv => whnf) | (refine both ?_ ?_ <;> conv => whnf))
  refine call_fn hdis hC hasBody_41 ?_ ?_ ?_
  · kernel_rfl
  · kernel_rfl
  intro r hr
  obtain ⟨D, rfl, hsq, htab⟩ := hr
  conv => whnf
  repeat' (first | (refine brd_t (by first | assumption | omega) ?_; conv => whnf) | (refine brd_f (by first | assumption | omega) ?_; conv => whnf) | (refine ask (by first | assumption | omega) ?_; conv => whnf) | (refine fit64 (by omega) ?_; conv => whnf) | (refine fit (by simp only [kmin, kmax]; omega) ?_; conv => whnf) | (refine br_t (by assumption) ?_; conv => whnf) | (refine br_f (by assumption) ?_; conv => whnf) | (refine get_of (by assumption) ?_; conv => whnf) | (refine get_map (by assumption) ?_; conv => whnf) | (refine draw_lex hE ?_ ?_; decide +kernel; conv => whnf) | (refine draw_any hE [⟨0, [(0, none), (1, none), (2, none), (3, none), (4, none), (5, none), (6, none), (7, none), (8, none), (9, none)], none, [], [[]], []⟩] ?_ ?_; decide +kernel; conv => whnf) | (refine draw_any hE [⟨1, [(0, none), (1, none), (2, none), (3, none), (4, none), (5, none), (6, none), (7, none), (8, none), (9, none), (10, some 0)], some 11, [], [[]], []⟩, ⟨0, [(12, none)], some 13, [], [[]], []⟩] ?_ ?_; decide +kernel; conv => whnf) | (refine brd (fun h => ?_) (fun h => ?_) <;> conv => whnf) | (refine br (fun h => ?_) (fun h => ?_) <;> conv => whnf) | (refine ret_now hE ?_; conv => whnf) | (intro hlen; conv => whnf) | (refine seg_here ?_; conv => whnf) | (refine both ?_ ?_ <;> conv => whnf))
  have hc0 : cn1 (List.replicate n false) + 0 ≤ n := by
    have : cn1 (List.replicate n false) ≤ (List.replicate n false).length := List.countP_le_length
    simp at this
    omega
  refine loopE (fun ((r, L) : Nat × List Bool) => ⟨171, [(1, .rp [.lst (T.map ints), .lst (F.map V.bool)]), (2, .ptr 1 0 0), (3, .int .i64 0), (5, .fn 42 [.rp [.lst ((D.map (fun r => r.map V.bool)).map V.lst)]]), (6, .sl 3 0 n), (29, .int .i64 n), (30, .int .i64 r)], [none, some (.row 2 [.agg [.nils, .nils]]), none, some (.row 1 (L.map V.bool))]⟩)
    (fun (r, L) => r ≤ n ∧ Lso T F n L ∧ (Compl T F n L ∨ cn1 L + r ≤ n)) (fun (r, _) => n - r) (0, List.replicate n false) hE ?_ ?_ ⟨Nat.zero_le _, ⟨by simp, fun i hi h => by simp [bt, hi] at h⟩, .inr hc0⟩ ?_
  · kernel_rfl
  · refine up_freeze 0 (z := 2) (els := [totV T F]) rfl ⟨⟨trivial, trivial, trivial⟩, trivial⟩ (up_freeze 2 (z := 1) (els := [.lst ((D.map (fun r => r.map V.bool)).map V.lst)]) rfl ⟨trivial, trivial⟩ (at_keep [1, 2, 3, 5, 6, 29, 30] ?_))
    conv => whnf
    simp only [hTm, hTl, Int.toNat_natCast]
    have hrep : List.replicate n (V.bool false) = (List.replicate n false).map V.bool := by rw [List.map_replicate]
    simp only [hrep, frz_nrL _ _ (nr_boo _)]
    rfl
  rintro ⟨r, L⟩ ⟨hr, hL, hCo⟩
  have hLm : (L.map V.bool).length = L.length := by simp
  have hLl := hL.len
  by_cases hlt : r < n
  · conv => whnf
    repeat' (first | (refine brd_t (by first | assumption | omega) ?_; conv => whnf) | (refine brd_f (by first | assumption | omega) ?_; conv => whnf) | (refine ask (by first | assumption | omega) ?_; conv => whnf) | (refine fit64 (by omega) ?_; conv => whnf) | (refine fit (by simp only [kmin, kmax]; omega) ?_; conv => whnf) | (refine br_t (by assumption) ?_; conv => whnf) | (refine br_f (by assumption) ?_; conv => whnf) | (refine get_of (by assumption) ?_; conv => whnf) | (refine get_map (by assumption) ?_; conv => whnf) | (refine draw_lex hE ?_ ?_; decide +kernel; conv => whnf) | (refine draw_any hE [⟨0, [(0, none), (1, none), (2, none), (3, none), (4, none), (5, none), (6, none), (7, none), (8, none), (9, none)], none, [], [[]], []⟩] ?_ ?_; decide +kernel; conv => whnf) | (refine draw_any hE [⟨1, [(0, none), (1, none), (2, none), (3, none), (4, none), (5, none), (6, none), (7, none), (8, none), (9, none), (10, some 0)], some 11, [], [[]], []⟩, ⟨0, [(12, none)], some 13, [], [[]], []⟩] ?_ ?_; decide +kernel; conv => whnf) | (refine brd (fun h => ?_) (fun h => ?_) <;> conv => whnf) | (refine br (fun h => ?_) (fun h => ?_) <;> conv => whnf) | (refine ret_now hE ?_; conv => whnf) | (intro hlen; conv => whnf) | (refine seg_here ?_; conv => whnf) | (refine both ?_ ?_ <;> conv => whnf))
    refine loopE (fun ((i, L') : Nat × List Bool) => ⟨171, [(1, .rp [.lst (T.map ints), .lst (F.map V.bool)]), (2, .ptr 1 0 0), (3, .int .i64 0), (5, .fn 42 [.rp [.lst ((D.map (fun r => r.map V.bool)).map V.lst)]]), (6, .sl 3 0 n), (29, .int .i64 n), (30, .int .i64 r), (34, .int .i64 n), (35, .int .i64 i)], [none, some (.row 2 [.agg [.nils, .nils]]), none, some (.row 1 (L'.map V.bool))]⟩)
      (fun (i, L') => i ≤ n ∧ LDoc T F n L L' i 0) (fun (i, _) => n - i) (0, L) hE ?_ ?_ ⟨Nat.zero_le _, .start hL⟩ ?_
    · kernel_rfl
    · refine at_keep [1, 2, 3, 5, 6, 29, 30, 34, 35] ?_
      conv => whnf
      rw [hTm, hTl]
      rfl
    rintro ⟨i, L'⟩ ⟨hi, hI⟩
    have hLm' : (L'.map V.bool).length = L'.length := by simp
    have hLl' := hI.lso.len
    by_cases hil : i < n
    · obtain ⟨rw1, hrow⟩ : ∃ x, T[i]? = some x := ⟨_, List.getElem?_eq_getElem (by omega)⟩
      obtain ⟨h8, hxs⟩ := hWF.rows rw1 (List.mem_of_getElem? hrow)
      obtain ⟨a0, a1, a2, a3, a4, a5, a6, a7, rfl⟩ := len8 h8
      have gL : (L'.map V.bool)[0 + Int.toNat (i : Int)]? = some (.bool (bt L' i)) := by rw [Nat.zero_add, Int.toNat_natCast, List.getElem?_map, bt_get hLl' hil]; rfl
      have gF : (F.map V.bool)[Int.toNat (i : Int)]? = some (.bool (fnF F i)) := by rw [Int.toNat_natCast, List.getElem?_map, hWF.fin hil]; rfl
      have gT : (T.map ints)[Int.toNat (i : Int)]? = some (ints [a0, a1, a2, a3, a4, a5, a6, a7]) := by rw [Int.toNat_natCast, List.getElem?_map, hrow]; rfl
      have hI2 := hI.put hil (b := fnF F i) (fun h => ⟨[], fun d hd => by simp at hd, h⟩) ⟨fun _ => rfl, fun e _ h => by omega⟩
      generalize bt L' i = b1 at gL hI2
      generalize fnF F i = b2 at gF hI2
      cases b1 <;> cases b2
      all_goals
        conv => whnf
        repeat' (first | (refine brd_t (by first | assumption | omega) ?_; conv => whnf) | (refine brd_f (by first | assumption | omega) ?_; conv => whnf) | (refine ask (by first | assumption | omega) ?_; conv => whnf) | (refine fit64 (by omega) ?_; conv => whnf) | (refine fit (by simp only [kmin, kmax]; omega) ?_; conv => whnf) | (refine br_t (by assumption) ?_; conv => whnf) | (refine br_f (by assumption) ?_; conv => whnf) | (refine get_of (by assumption) ?_; conv => whnf) | (refine get_map (by assumption) ?_; conv => whnf) | (refine get_of gL ?_; conv => whnf) | (refine get_of gF ?_; conv => whnf) | (refine get_of gT ?_; conv => whnf) | (refine draw_lex hE ?_ ?_; decide +kernel; conv => whnf) | (refine draw_any hE [⟨0, [(0, none), (1, none), (2, none), (3, none), (4, none), (5, none), (6, none), (7, none), (8, none), (9, none)], none, [], [[]], []⟩] ?_ ?_; decide +kernel; conv => whnf) | (refine draw_any hE [⟨1, [(0, none), (1, none), (2, none), (3, none), (4, none), (5, none), (6, none), (7, none), (8, none), (9, none), (10, some 0)], some 11, [], [[]], []⟩, ⟨0, [(12, none)], some 13, [], [[]], []⟩] ?_ ?_; decide +kernel; conv => whnf) | (refine brd (fun h => ?_) (fun h => ?_) <;> conv => whnf) | (refine br (fun h => ?_) (fun h => ?_) <;> conv => whnf) | (refine ret_now hE ?_; conv => whnf) | (intro hlen; conv => whnf) | (refine seg_here ?_; conv => whnf) | (refine both ?_ ?_ <;> conv => whnf))
        refine loopE (fun ((c, L2) : Nat × List Bool) => ⟨171, [(1, .rp [.lst (T.map ints), .lst (F.map V.bool)]), (2, .ptr 1 0 0), (3, .int .i64 0), (5, .fn 42 [.rp [.lst ((D.map (fun r => r.map V.bool)).map V.lst)]]), (6, .sl 3 0 n), (29, .int .i64 n), (30, .int .i64 r), (34, .int .i64 n), (35, .int .i64 i), (7, .int .i64 i), (56, ints [a0, a1, a2, a3, a4, a5, a6, a7]), (57, .int .i64 8), (58, .int .i64 c)], [none, some (.row 2 [.agg [.nils, .nils]]), none, some (.row 1 (L2.map V.bool))]⟩)
          (fun (c, L2) => c ≤ 8 ∧ LDoc T F n L L2 i (c + 1)) (fun (c, _) => 8 - c) (0, L'.set i _) hE ?_ ?_ ⟨Nat.zero_le _, hI2⟩ ?_
        · kernel_rfl
        · refine at_keep [1, 2, 3, 5, 6, 29, 30, 34, 35, 7, 56, 57, 58] ?_
          conv => whnf
          rw [Nat.zero_add, Int.toNat_natCast, ← List.map_set]
          rfl
        rintro ⟨c, L2⟩ ⟨hc, hJ⟩
        have hLm2 : (L2.map V.bool).length = L2.length := by simp
        have hLl2 := hJ.lso.len
        by_cases hc8 : c < 8
        · obtain ⟨row', x, hrow', _, hxc, hx0, hxn, ex⟩ := hWF.get hil hc8
          rw [hrow] at hrow'
          cases hrow'
          have hxt : x.toNat < n := by omega
          have gL1 : (L2.map V.bool)[0 + Int.toNat (i : Int)]? = some (.bool (bt L2 i)) := by rw [Nat.zero_add, Int.toNat_natCast, List.getElem?_map, bt_get hLl2 hil]; rfl
          have gL2 : (L2.map V.bool)[0 + Int.toNat x]? = some (.bool (bt L2 x.toNat)) := by rw [Nat.zero_add, List.getElem?_map, bt_get hLl2 hxt]; rfl
          have hJ2 := hJ.put hil (b := bt L2 x.toNat) (fun hb => by
            obtain ⟨w, hw, hf⟩ := hJ.lso.sound x.toNat hxt hb
            exact ⟨c :: w, fun d hd => by
              rcases List.mem_cons.1 hd with rfl | hd
              · exact hc8
              · exact hw d hd, by rw [List.foldl_cons, ex]; exact hf⟩) ⟨fun h => by omega, fun e he h => by
            obtain rfl : e = c := by omega
            rw [ex]⟩
          generalize bt L2 i = d1 at gL1 hJ2
          generalize bt L2 x.toNat = d2 at gL2 hJ2
          clear ex hJ hI hI2
          obtain rfl | rfl | rfl | rfl | rfl | rfl | rfl | rfl : c = 0 ∨ c = 1 ∨ c = 2 ∨ c = 3 ∨ c = 4 ∨ c = 5 ∨ c = 6 ∨ c = 7 := by omega
          all_goals simp only [List.getElem?_cons_zero, List.getElem?_cons_succ, Option.some.injEq] at hxc
          all_goals subst hxc
          all_goals cases d1 <;> cases d2
          all_goals
            conv => whnf
            repeat' (first | (refine brd_t (by first | assumption | omega) ?_; conv => whnf) | (refine brd_f (by first | assumption | omega) ?_; conv => whnf) | (refine ask (by first | assumption | omega) ?_; conv => whnf) | (refine fit64 (by omega) ?_; conv => whnf) | (refine fit (by simp only [kmin, kmax]; omega) ?_; conv => whnf) | (refine br_t (by assumption) ?_; conv => whnf) | (refine br_f (by assumption) ?_; conv => whnf) | (refine get_of (by assumption) ?_; conv => whnf) | (refine get_map (by assumption) ?_; conv => whnf) | (refine get_of gL1 ?_; conv => whnf) | (refine get_of gL2 ?_; conv => whnf) | (refine draw_lex hE ?_ ?_; decide +kernel; conv => whnf) | (refine draw_any hE [⟨0, [(0, none), (1, none), (2, none), (3, none), (4, none), (5, none), (6, none), (7, none), (8, none), (9, none)], none, [], [[]], []⟩] ?_ ?_; decide +kernel; conv => whnf) | (refine draw_any hE [⟨1, [(0, none), (1, none), (2, none), (3, none), (4, none), (5, none), (6, none), (7, none), (8, none), (9, none), (10, some 0)], some 11, [], [[]], []⟩, ⟨0, [(12, none)], some 13, [], [[]], []⟩] ?_ ?_; decide +kernel; conv => whnf) | (refine brd (fun h => ?_) (fun h => ?_) <;> conv => whnf) | (refine br (fun h => ?_) (fun h => ?_) <;> conv => whnf) | (refine ret_now hE ?_; conv => whnf) | (intro hlen; conv => whnf) | (refine seg_here ?_; conv => whnf) | (refine both ?_ ?_ <;> conv => whnf))
            refine next_keep [1, 2, 3, 5, 6, 29, 30, 34, 35, 7, 56, 57, 58] (_ + 1, L2.set i _) ⟨?_, hJ2⟩ ?_ ?_
            · omega
            · show 8 - _ < 8 - _; omega
            conv => whnf
            rw [Nat.zero_add, Int.toNat_natCast, ← List.map_set]
            rfl
        · obtain rfl : c = 8 := by omega
          conv => whnf
          repeat' (first | (refine brd_t (by first | assumption | omega) ?_; conv => whnf) | (refine brd_f (by first | assumption | omega) ?_; conv => whnf) | (refine ask (by first | assumption | omega) ?_; conv => whnf) | (refine fit64 (by omega) ?_; conv => whnf) | (refine fit (by simp only [kmin, kmax]; omega) ?_; conv => whnf) | (refine br_t (by assumption) ?_; conv => whnf) | (refine br_f (by assumption) ?_; conv => whnf) | (refine get_of (by assumption) ?_; conv => whnf) | (refine get_map (by assumption) ?_; conv => whnf) | (refine draw_lex hE ?_ ?_; decide +kernel; conv => whnf) | (refine draw_any hE [⟨0, [(0, none), (1, none), (2, none), (3, none), (4, none), (5, none), (6, none), (7, none), (8, none), (9, none)], none, [], [[]], []⟩] ?_ ?_; decide +kernel; conv => whnf) | (refine draw_any hE [⟨1, [(0, none), (1, none), (2, none), (3, none), (4, none), (5, none), (6, none), (7, none), (8, none), (9, none), (10, some 0)], some 11, [], [[]], []⟩, ⟨0, [(12, none)], some 13, [], [[]], []⟩] ?_ ?_; decide +kernel; conv => whnf) | (refine brd (fun h => ?_) (fun h => ?_) <;> conv => whnf) | (refine br (fun h => ?_) (fun h => ?_) <;> conv => whnf) | (refine ret_now hE ?_; conv => whnf) | (intro hlen; conv => whnf) | (refine seg_here ?_; conv => whnf) | (refine both ?_ ?_ <;> conv => whnf))
          refine next_keep [1, 2, 3, 5, 6, 29, 30, 34, 35] (i + 1, L2) ⟨hil, hJ.row⟩ (by show n - (i + 1) < n - i; omega) ?_
          conv => whnf
          rfl
    · obtain rfl : i = n := by omega
      obtain ⟨q1, q2⟩ := hI.done hnx hCo
      conv => whnf
      repeat' (first | (refine brd_t (by first | assumption | omega) ?_; conv => whnf) | (refine brd_f (by first | assumption | omega) ?_; conv => whnf) | (refine ask (by first | assumption | omega) ?_; conv => whnf) | (refine fit64 (by omega) ?_; conv => whnf) | (refine fit (by simp only [kmin, kmax]; omega) ?_; conv => whnf) | (refine br_t (by assumption) ?_; conv => whnf) | (refine br_f (by assumption) ?_; conv => whnf) | (refine get_of (by assumption) ?_; conv => whnf) | (refine get_map (by assumption) ?_; conv => whnf) | (refine draw_lex hE ?_ ?_; decide +kernel; conv => whnf) | (refine draw_any hE [⟨0, [(0, none), (1, none), (2, none), (3, none), (4, none), (5, none), (6, none), (7, none), (8, none), (9, none)], none, [], [[]], []⟩] ?_ ?_; decide +kernel; conv => whnf) | (refine draw_any hE [⟨1, [(0, none), (1, none), (2, none), (3, none), (4, none), (5, none), (6, none), (7, none), (8, none), (9, none), (10, some 0)], some 11, [], [[]], []⟩, ⟨0, [(12, none)], some 13, [], [[]], []⟩] ?_ ?_; decide +kernel; conv => whnf) | (refine brd (fun h => ?_) (fun h => ?_) <;> conv => whnf) | (refine br (fun h => ?_) (fun h => ?_) <;> conv => whnf) | (refine ret_now hE ?_; conv => whnf) | (intro hlen; conv => whnf) | (refine seg_here ?_; conv => whnf) | (refine both ?_ ?_ <;> conv => whnf))
      refine next_keep [1, 2, 3, 5, 6, 29, 30] (r + 1, L') ⟨hlt, q1, q2⟩ (by show i - (r + 1) < i - r; omega) ?_
      conv => whnf
      rfl
  obtain rfl : n = r := by omega
  have hlive := live_rounds hL hCo
  have g0 : (L.map V.bool)[0 + Int.toNat 0]? = some (.bool (bt L 0)) := by
    have := bt_get hLl (i := 0) (by omega)
    show (L.map V.bool)[0]? = _
    rw [List.getElem?_map, this]
    rfl
  by_cases hd : aliveW T F 0
  · rw [(hlive 0 (by omega)).2 hd] at g0
    have g0n : (List.replicate (Int.toNat ((T.map ints).length : Int)) (V.int .i64 0))[0 + Int.toNat 0]? = some (.int .i64 0) := by
      rw [List.getElem?_replicate, if_pos (by simp; omega)]
    have e3 : List.take n (List.drop 0 (L.map V.bool)) = L.map V.bool := by rw [List.drop_zero, List.take_of_length_le (by omega)]
    have hset : (List.replicate n (V.int .i64 0)).set (0 + Int.toNat 0) (V.int .i64 1) = ((List.replicate n (0 : Int)).set 0 1).map (V.int .i64) := by rw [List.map_set, List.map_replicate]; rfl
    conv => whnf
    repeat' (first | (refine brd_t (by first | assumption | omega) ?_; conv => whnf) | (refine brd_f (by first | assumption | omega) ?_; conv => whnf) | (refine ask (by first | assumption | omega) ?_; conv => whnf) | (refine fit64 (by omega) ?_; conv => whnf) | (refine fit (by simp only [kmin, kmax]; omega) ?_; conv => whnf) | (refine br_t (by assumption) ?_; conv => whnf) | (refine br_f (by assumption) ?_; conv => whnf) | (refine get_of (by assumption) ?_; conv => whnf) | (refine get_map (by assumption) ?_; conv => whnf) | (refine get_of g0 ?_; conv => whnf) | (rw [g0n]; conv => whnf) | (refine draw_lex hE ?_ ?_; decide +kernel; conv => whnf) | (refine draw_any hE [⟨0, [(0, none), (1, none), (2, none), (3, none), (4, none), (5, none), (6, none), (7, none), (8, none), (9, none)], none, [], [[]], []⟩] ?_ ?_; decide +kernel; conv => whnf) | (refine draw_any hE [⟨1, [(0, none), (1, none), (2, none), (3, none), (4, none), (5, none), (6, none), (7, none), (8, none), (9, none), (10, some 0)], some 11, [], [[]], []⟩, ⟨0, [(12, none)], some 13, [], [[]], []⟩] ?_ ?_; decide +kernel; conv => whnf) | (refine brd (fun h => ?_) (fun h => ?_) <;> conv => whnf) | (refine br (fun h => ?_) (fun h => ?_) <;> conv => whnf) | (refine ret_now hE ?_; conv => whnf) | (intro hlen; conv => whnf) | (refine seg_here ?_; conv => whnf) | (refine both ?_ ?_ <;> conv => whnf))
    refine loopE (fun ((i, S, Nm, R, G) : Nat × List Int × List Int × List (List Int) × List Bool) => ⟨171, [(1, .rp [.lst (T.map ints), .lst (F.map V.bool)]), (2, .ptr 1 0 0), (3, .int .i64 0), (5, .fn 42 [.rp [.lst ((D.map (fun r => r.map V.bool)).map V.lst)]]), (6, .sl 3 0 n), (10, .sl 0 0 n), (11, .sl 2 0 S.length), (12, .ptr 4 0 0), (13, .int .i64 i)],
        [some (.row 1 (Nm.map (V.int .i64))), some (.row 2 [.agg [.nils, .nils]]), some (.row 1 (S.map (V.int .i64))), some (.row 1 (L.map V.bool)), some (.row 2 [.agg [.sl 5 0 R.length, .sl 6 0 G.length]]), some (.row 1 (R.map ints)), some (.row 1 (G.map V.bool))]⟩)
      (fun (i, S, Nm, R, G) => i ≤ S.length ∧ QInv T F n D S Nm R.flatten ∧ R.length = i ∧ (∀ r ∈ R, r.length = 8) ∧ G = (S.take i).map fun s => fnF F s.toNat) (fun (i, _) => n + 1 - i) (0, [0], (List.replicate n 0).set 0 1, [], []) hE ?_ ?_ ⟨Nat.zero_le _, .start hWF htab hsq h1 hd, rfl, fun r hr => by simp at hr, rfl⟩ ?_
    · kernel_rfl
    · refine up_ownF 4 0 1 rfl rfl (up_ownF 4 1 1 rfl rfl (at_keep [1, 2, 3, 5, 6, 10, 11, 12, 13] ?_))
      conv => whnf
      simp only [hTm, hTl, Int.toNat_natCast, hset]
      rfl
    clear g0 g0n hset
    rintro ⟨i, S, Nm, R, G⟩ ⟨hi, hO, hR, hR8, hG⟩
    have hSb := hO.num.bound
    have hSm : (S.map (V.int .i64)).length = S.length := by simp
    have hRm : (R.map ints).length = R.length := by simp
    have hGm : (G.map V.bool).length = G.length := by simp
    have hGl : G.length = i := by rw [hG]; simp; omega
    have hfl : R.flatten.length = 8 * i := by rw [flat_len hR8, hR]
    by_cases hlt : i < S.length
    · obtain ⟨s, hs⟩ : ∃ s, S[i]? = some s := ⟨_, List.getElem?_eq_getElem hlt⟩
      obtain ⟨hs0, hs1⟩ := hO.num.st s (List.mem_of_getElem? hs)
      have hsn : s.toNat < n := by omega
      obtain ⟨rw1, hrow⟩ : ∃ x, T[s.toNat]? = some x := ⟨_, List.getElem?_eq_getElem (by omega)⟩
      obtain ⟨h8, hxs⟩ := hWF.rows rw1 (List.mem_of_getElem? hrow)
      obtain ⟨a0, a1, a2, a3, a4, a5, a6, a7, rfl⟩ := len8 h8
      have g1 : (S.map (V.int .i64))[0 + Int.toNat (i : Int)]? = some (.int .i64 s) := by rw [Nat.zero_add, Int.toNat_natCast, List.getElem?_map, hs]; rfl
      have g2 : (T.map ints)[Int.toNat s]? = some (ints [a0, a1, a2, a3, a4, a5, a6, a7]) := by rw [List.getElem?_map, hrow]; rfl
      conv => whnf
      repeat' (first | (refine brd_t (by first | assumption | omega) ?_; conv => whnf) | (refine brd_f (by first | assumption | omega) ?_; conv => whnf) | (refine ask (by first | assumption | omega) ?_; conv => whnf) | (refine fit64 (by omega) ?_; conv => whnf) | (refine fit (by simp only [kmin, kmax]; omega) ?_; conv => whnf) | (refine br_t (by assumption) ?_; conv => whnf) | (refine br_f (by assumption) ?_; conv => whnf) | (refine get_of (by assumption) ?_; conv => whnf) | (refine get_map (by assumption) ?_; conv => whnf) | (refine get_of g1 ?_; conv => whnf) | (refine get_of g2 ?_; conv => whnf) | (refine draw_lex hE ?_ ?_; decide +kernel; conv => whnf) | (refine draw_any hE [⟨0, [(0, none), (1, none), (2, none), (3, none), (4, none), (5, none), (6, none), (7, none), (8, none), (9, none)], none, [], [[]], []⟩] ?_ ?_; decide +kernel; conv => whnf) | (refine draw_any hE [⟨1, [(0, none), (1, none), (2, none), (3, none), (4, none), (5, none), (6, none), (7, none), (8, none), (9, none), (10, some 0)], some 11, [], [[]], []⟩, ⟨0, [(12, none)], some 13, [], [[]], []⟩] ?_ ?_; decide +kernel; conv => whnf) | (refine brd (fun h => ?_) (fun h => ?_) <;> conv => whnf) | (refine br (fun h => ?_) (fun h => ?_) <;> conv => whnf) | (refine ret_now hE ?_; conv => whnf) | (intro hlen; conv => whnf) | (refine seg_here ?_; conv => whnf) | (refine both ?_ ?_ <;> conv => whnf))
      refine loopE (fun ((c, S, Nm, row) : Nat × List Int × List Int × List Int) => ⟨171, [(1, .rp [.lst (T.map ints), .lst (F.map V.bool)]), (2, .ptr 1 0 0), (3, .int .i64 0), (5, .fn 42 [.rp [.lst ((D.map (fun r => r.map V.bool)).map V.lst)]]), (6, .sl 3 0 n), (10, .sl 0 0 n), (11, .sl 2 0 S.length), (12, .ptr 4 0 0), (13, .int .i64 i), (14, .sl 7 0 row.length), (106, ints [a0, a1, a2, a3, a4, a5, a6, a7]), (107, .int .i64 8), (108, .int .i64 c)],
          [some (.row 1 (Nm.map (V.int .i64))), some (.row 2 [.agg [.nils, .nils]]), some (.row 1 (S.map (V.int .i64))), some (.row 1 (L.map V.bool)), some (.row 2 [.agg [.sl 5 0 R.length, .sl 6 0 G.length]]), some (.row 1 (R.map ints)), some (.row 1 (G.map V.bool)), some (.row 1 (row.map (V.int .i64)))]⟩)
        (fun (c, S, Nm, row) => c ≤ 8 ∧ row.length = c ∧ S[i]? = some s ∧ QInv T F n D S Nm (R.flatten ++ row) ∧ G = (S.take i).map fun s => fnF F s.toNat) (fun (c, _) => 8 - c) (0, S, Nm, []) hE ?_ ?_ ⟨Nat.zero_le _, rfl, hs, by rw [List.append_nil]; exact hO, hG⟩ ?_
      · kernel_rfl
      · refine up_own 14 1 rfl rfl (at_keep [1, 2, 3, 5, 6, 10, 11, 12, 13, 14, 106, 107, 108] ?_)
        conv => whnf
        rfl
      clear hO hs hG hSm hSb hlt hi g1
      rintro ⟨c, S, Nm, row⟩ ⟨hc, hrl, hs, hO, hG⟩
      have hSb := hO.num.bound
      have hSm : (S.map (V.int .i64)).length = S.length := by simp
      have hNl := hO.num.len
      have hNm : (Nm.map (V.int .i64)).length = Nm.length := by simp
      have hlt : i < S.length := (List.getElem?_eq_some_iff.1 hs).1
      have hrm : (row.map (V.int .i64)).length = row.length := by simp
      by_cases hc8 : c < 8
      · obtain ⟨row', x, hrow', _, hxc, hx0, hxn, ex⟩ := hWF.get hsn hc8
        rw [hrow] at hrow'
        cases hrow'
        have hxt : x.toNat < n := by omega
        have hWl : (R.flatten ++ row).length = 8 * i + c := by simp [hfl, hrl]
        have hlen1 : ∀ u : Int, (row ++ [u]).length = c + 1 := fun u => by rw [List.length_append, hrl]; rfl
        have hfw := fst_walk hWF htab hsq hn2 hxt
        rw [Int.toNat_of_nonneg hx0] at hfw
        obtain ⟨hkn, _⟩ := fst_lng hWF htab hsq hxt
        have hdead := hO.dead hWF htab hsq hs hWl hc8 ex
        have hknown := fun v => hO.known hWF htab hsq hs hWl hc8 ex (v := v)
        have hnew := hO.new hWF htab hsq hs hWl hc8 ex
        rw [List.append_assoc] at hdead hnew
        simp only [List.append_assoc] at hknown
        generalize fstD D x.toNat = k at hfw hkn hdead hknown hnew
        obtain ⟨v, hv⟩ : ∃ v, Nm[k]? = some v := ⟨_, List.getElem?_eq_getElem (by omega)⟩
        have g3 : (Nm.map (V.int .i64))[0 + Int.toNat (k : Int)]? = some (.int .i64 v) := by rw [Nat.zero_add, Int.toNat_natCast, List.getElem?_map, hv]; rfl
        have gk : (L.map V.bool)[0 + Int.toNat (k : Int)]? = some (.bool (bt L k)) := by rw [Nat.zero_add, Int.toNat_natCast, List.getElem?_map, bt_get hLl hkn]; rfl
        by_cases hal : aliveW T F k
        · rw [(hlive k hkn).2 hal] at gk
          by_cases hv0 : v = 0
          · subst hv0
            have hput := hnew hal hv
            have e3 : ((S.length : Int)) + 1 = ((S ++ [(k : Int)]).length : Int) := by simp
            have e4 : (S.length : Int) = ((S ++ [(k : Int)]).length : Int) - 1 := by simp
            rw [e3, e4] at hput
            have hG' : G = ((S ++ [(k : Int)]).take i).map fun s => fnF F s.toNat := by rw [List.take_append_of_le_length (by omega)]; exact hG
            have hs' : (S ++ [(k : Int)])[i]? = some s := get_was hs
            have g7 : ∀ u : V, ((killL 2 (Nm.map (V.int .i64))).set (0 + Int.toNat (k : Int)) u)[0 + Int.toNat (k : Int)]? = some u := fun u => by rw [List.getElem?_set_self (by rw [killL_length, hNm, Nat.zero_add, Int.toNat_natCast]; omega)]
            have g8 : (killL 2 (Nm.map (V.int .i64)))[0 + Int.toNat (k : Int)]? = some (.int .i64 0) := by rw [kill_nrL _ (nr_i64s _)]; exact g3
            clear ex hO hWl hdead hknown hnew
            obtain rfl | rfl | rfl | rfl | rfl | rfl | rfl | rfl : c = 0 ∨ c = 1 ∨ c = 2 ∨ c = 3 ∨ c = 4 ∨ c = 5 ∨ c = 6 ∨ c = 7 := by omega
            all_goals simp only [List.getElem?_cons_zero, List.getElem?_cons_succ, Option.some.injEq] at hxc
            all_goals subst hxc
            all_goals
              conv => whnf
              repeat' (first | (refine brd_t (by first | assumption | omega) ?_; conv => whnf) | (refine brd_f (by first | assumption | omega) ?_; conv => whnf) | (refine ask (by first | assumption | omega) ?_; conv => whnf) | (refine fit64 (by omega) ?_; conv => whnf) | (refine fit (by simp only [kmin, kmax]; omega) ?_; conv => whnf) | (refine br_t (by assumption) ?_; conv => whnf) | (refine br_f (by assumption) ?_; conv => whnf) | (refine get_of (by assumption) ?_; conv => whnf) | (refine get_map (by assumption) ?_; conv => whnf) | (refine call_eq (hfw) hC hasBody_42 ?_ ?_ ?_; kernel_rfl; kernel_rfl; conv => whnf) | (refine callq_eq (hfw) hC hasBody_42 ?_ ?_ ?_; kernel_rfl; kernel_rfl; conv => whnf) | (refine get_of gk ?_; conv => whnf) | (refine get_of g3 ?_; conv => whnf) | (refine get_of g8 ?_; conv => whnf) | (refine get_of (g7 _) ?_; conv => whnf) | (refine ask (Nat.le_refl 1) ?_; conv => whnf) | (refine ask ⟨?_, ?_, ?_⟩ ?_; (simp [killL_length] <;> omega); (show _ + 1 ≤ 9223372036854775807; omega); (show (_ + 1) * _ ≤ 140737488355328; omega); conv => whnf) | (refine fit64 ⟨by simp; omega, by simp; omega⟩ ?_; conv => whnf) | (refine draw_lex hE ?_ ?_; decide +kernel; conv => whnf) | (refine draw_any hE [⟨0, [(0, none), (1, none), (2, none), (3, none), (4, none), (5, none), (6, none), (7, none), (8, none), (9, none)], none, [], [[]], []⟩] ?_ ?_; decide +kernel; conv => whnf) | (refine draw_any hE [⟨1, [(0, none), (1, none), (2, none), (3, none), (4, none), (5, none), (6, none), (7, none), (8, none), (9, none), (10, some 0)], some 11, [], [[]], []⟩, ⟨0, [(12, none)], some 13, [], [[]], []⟩] ?_ ?_; decide +kernel; conv => whnf) | (refine brd (fun h => ?_) (fun h => ?_) <;> conv => whnf) | (refine br (fun h => ?_) (fun h => ?_) <;> conv => whnf) | (refine ret_now hE ?_; conv => whnf) | (intro hlen; conv => whnf) | (refine seg_here ?_; conv => whnf) | (refine both ?_ ?_ <;> conv => whnf))
              refine next_drop [1, 2, 3, 5, 6, 10, 11, 12, 13, 14, 106, 107, 108] [8, 9] (_ + 1, S ++ [(k : Int)], Nm.set k ((S ++ [(k : Int)]).length : Int), row ++ [((S ++ [(k : Int)]).length : Int) - 1]) ⟨?_, hlen1 _, hs', hput, hG'⟩ ?_ ?_
              · omega
              · show 8 - _ < 8 - _; omega
              conv => whnf
              simp only [int_row, int_len, Nat.zero_add, Int.toNat_natCast, ← List.map_set, kill_nrL _ (nr_rows _), kill_nrL _ (nr_boo _), kill_nrL _ (nr_i64s _)]
              rfl
          · have hput := hknown v hv hv0
            have hvb : 0 ≤ v ∧ v ≤ 1048577 := by
              rcases hO.num.num _ _ hv with h | ⟨j, h1, h2⟩
              · exact absurd h hv0
              · have := (List.getElem?_eq_some_iff.1 h1).1
                omega
            clear ex hO hWl hdead hknown hnew
            obtain rfl | rfl | rfl | rfl | rfl | rfl | rfl | rfl : c = 0 ∨ c = 1 ∨ c = 2 ∨ c = 3 ∨ c = 4 ∨ c = 5 ∨ c = 6 ∨ c = 7 := by omega
            all_goals simp only [List.getElem?_cons_zero, List.getElem?_cons_succ, Option.some.injEq] at hxc
            all_goals subst hxc
            all_goals
              conv => whnf
              repeat' (first | (refine brd_t (by first | assumption | omega) ?_; conv => whnf) | (refine brd_f (by first | assumption | omega) ?_; conv => whnf) | (refine ask (by first | assumption | omega) ?_; conv => whnf) | (refine fit64 (by omega) ?_; conv => whnf) | (refine fit (by simp only [kmin, kmax]; omega) ?_; conv => whnf) | (refine br_t (by assumption) ?_; conv => whnf) | (refine br_f (by assumption) ?_; conv => whnf) | (refine get_of (by assumption) ?_; conv => whnf) | (refine get_map (by assumption) ?_; conv => whnf) | (refine call_eq (hfw) hC hasBody_42 ?_ ?_ ?_; kernel_rfl; kernel_rfl; conv => whnf) | (refine callq_eq (hfw) hC hasBody_42 ?_ ?_ ?_; kernel_rfl; kernel_rfl; conv => whnf) | (refine get_of gk ?_; conv => whnf) | (refine get_of g3 ?_; conv => whnf) | (refine ask (Nat.le_refl 1) ?_; conv => whnf) | (refine ask ⟨?_, ?_, ?_⟩ ?_; (simp [killL_length] <;> omega); (show _ + 1 ≤ 9223372036854775807; omega); (show (_ + 1) * _ ≤ 140737488355328; omega); conv => whnf) | (refine draw_lex hE ?_ ?_; decide +kernel; conv => whnf) | (refine draw_any hE [⟨0, [(0, none), (1, none), (2, none), (3, none), (4, none), (5, none), (6, none), (7, none), (8, none), (9, none)], none, [], [[]], []⟩] ?_ ?_; decide +kernel; conv => whnf) | (refine draw_any hE [⟨1, [(0, none), (1, none), (2, none), (3, none), (4, none), (5, none), (6, none), (7, none), (8, none), (9, none), (10, some 0)], some 11, [], [[]], []⟩, ⟨0, [(12, none)], some 13, [], [[]], []⟩] ?_ ?_; decide +kernel; conv => whnf) | (refine brd (fun h => ?_) (fun h => ?_) <;> conv => whnf) | (refine br (fun h => ?_) (fun h => ?_) <;> conv => whnf) | (refine ret_now hE ?_; conv => whnf) | (intro hlen; conv => whnf) | (refine seg_here ?_; conv => whnf) | (refine both ?_ ?_ <;> conv => whnf))
              refine next_drop [1, 2, 3, 5, 6, 10, 11, 12, 13, 14, 106, 107, 108] [8] (_ + 1, S, Nm, row ++ [v - 1]) ⟨?_, hlen1 _, hs, hput, hG⟩ ?_ ?_
              · omega
              · show 8 - _ < 8 - _; omega
              conv => whnf
              rw [int_row, int_len]
              simp only [kill_nrL _ (nr_rows _), kill_nrL _ (nr_boo _), kill_nrL _ (nr_i64s _)]
              rfl
        · have hput := hdead hal
          have hbf : bt L k = false := by
            cases hb : bt L k with
            | false => rfl
            | true => exact absurd ((hlive k hkn).1 hb) hal
          rw [hbf] at gk
          clear ex hO hWl hdead hknown hnew
          obtain rfl | rfl | rfl | rfl | rfl | rfl | rfl | rfl : c = 0 ∨ c = 1 ∨ c = 2 ∨ c = 3 ∨ c = 4 ∨ c = 5 ∨ c = 6 ∨ c = 7 := by omega
          all_goals simp only [List.getElem?_cons_zero, List.getElem?_cons_succ, Option.some.injEq] at hxc
          all_goals subst hxc
          all_goals
            conv => whnf
            repeat' (first | (refine brd_t (by first | assumption | omega) ?_; conv => whnf) | (refine brd_f (by first | assumption | omega) ?_; conv => whnf) | (refine ask (by first | assumption | omega) ?_; conv => whnf) | (refine fit64 (by omega) ?_; conv => whnf) | (refine fit (by simp only [kmin, kmax]; omega) ?_; conv => whnf) | (refine br_t (by assumption) ?_; conv => whnf) | (refine br_f (by assumption) ?_; conv => whnf) | (refine get_of (by assumption) ?_; conv => whnf) | (refine get_map (by assumption) ?_; conv => whnf) | (refine call_eq (hfw) hC hasBody_42 ?_ ?_ ?_; kernel_rfl; kernel_rfl; conv => whnf) | (refine callq_eq (hfw) hC hasBody_42 ?_ ?_ ?_; kernel_rfl; kernel_rfl; conv => whnf) | (refine get_of gk ?_; conv => whnf) | (refine ask (Nat.le_refl 1) ?_; conv => whnf) | (refine ask ⟨?_, ?_, ?_⟩ ?_; (simp [killL_length] <;> omega); (show _ + 1 ≤ 9223372036854775807; omega); (show (_ + 1) * _ ≤ 140737488355328; omega); conv => whnf) | (refine draw_lex hE ?_ ?_; decide +kernel; conv => whnf) | (refine draw_any hE [⟨0, [(0, none), (1, none), (2, none), (3, none), (4, none), (5, none), (6, none), (7, none), (8, none), (9, none)], none, [], [[]], []⟩] ?_ ?_; decide +kernel; conv => whnf) | (refine draw_any hE [⟨1, [(0, none), (1, none), (2, none), (3, none), (4, none), (5, none), (6, none), (7, none), (8, none), (9, none), (10, some 0)], some 11, [], [[]], []⟩, ⟨0, [(12, none)], some 13, [], [[]], []⟩] ?_ ?_; decide +kernel; conv => whnf) | (refine brd (fun h => ?_) (fun h => ?_) <;> conv => whnf) | (refine br (fun h => ?_) (fun h => ?_) <;> conv => whnf) | (refine ret_now hE ?_; conv => whnf) | (intro hlen; conv => whnf) | (refine seg_here ?_; conv => whnf) | (refine both ?_ ?_ <;> conv => whnf))
            refine next_drop [1, 2, 3, 5, 6, 10, 11, 12, 13, 14, 106, 107, 108] [8] (_ + 1, S, Nm, row ++ [-1]) ⟨?_, hlen1 _, hs, hput, hG⟩ ?_ ?_
            · omega
            · show 8 - _ < 8 - _; omega
            conv => whnf
            rw [int_row, int_len]
            simp only [kill_nrL _ (nr_rows _), kill_nrL _ (nr_boo _), kill_nrL _ (nr_i64s _)]
            rfl
      · obtain rfl : c = 8 := by omega
        have g1 : (S.map (V.int .i64))[0 + Int.toNat (i : Int)]? = some (.int .i64 s) := by rw [Nat.zero_add, Int.toNat_natCast, List.getElem?_map, hs]; rfl
        have g1' : (killL 5 (S.map (V.int .i64)))[0 + Int.toNat (i : Int)]? = some (.int .i64 s) := by rw [kill_nrL _ (nr_i64s _)]; exact g1
        have g6 : (F.map V.bool)[Int.toNat s]? = some (.bool (fnF F s.toNat)) := by rw [List.getElem?_map, hWF.fin hsn]; rfl
        have hO' : QInv T F n D S Nm (R ++ [row]).flatten := by rw [List.flatten_append, List.flatten_cons, List.flatten_nil, List.append_nil]; exact hO
        have hR8' : ∀ r ∈ R ++ [row], r.length = 8 := fun r hr => by
          rcases List.mem_append.1 hr with hr | hr
          · exact hR8 r hr
          · simp at hr; subst hr; exact hrl
        have hG' : G ++ [fnF F s.toNat] = (S.take (i + 1)).map fun s => fnF F s.toNat := by
          rw [hG, List.take_add_one, hs, List.map_append]
          rfl
        generalize fnF F s.toNat = b at g6 hG'
        obtain ⟨r0, r1, r2, r3, r4, r5, r6, r7, rfl⟩ := len8 hrl
        cases b
        all_goals
          conv => whnf
          repeat' (first | (refine brd_t (by first | assumption | omega) ?_; conv => whnf) | (refine brd_f (by first | assumption | omega) ?_; conv => whnf) | (refine ask (by first | assumption | omega) ?_; conv => whnf) | (refine fit64 (by omega) ?_; conv => whnf) | (refine fit (by simp only [kmin, kmax]; omega) ?_; conv => whnf) | (refine br_t (by assumption) ?_; conv => whnf) | (refine br_f (by assumption) ?_; conv => whnf) | (refine get_of (by assumption) ?_; conv => whnf) | (refine get_map (by assumption) ?_; conv => whnf) | (refine get_of g1 ?_; conv => whnf) | (refine get_of g1' ?_; conv => whnf) | (refine get_of g6 ?_; conv => whnf) | (refine ask (Nat.le_refl 1) ?_; conv => whnf) | (refine ask ⟨?_, ?_, ?_⟩ ?_; (simp [killL_length] <;> omega); (show _ + 1 ≤ 9223372036854775807; omega); (show (_ + 1) * _ ≤ 140737488355328; omega); conv => whnf) | (refine draw_lex hE ?_ ?_; decide +kernel; conv => whnf) | (refine draw_any hE [⟨0, [(0, none), (1, none), (2, none), (3, none), (4, none), (5, none), (6, none), (7, none), (8, none), (9, none)], none, [], [[]], []⟩] ?_ ?_; decide +kernel; conv => whnf) | (refine draw_any hE [⟨1, [(0, none), (1, none), (2, none), (3, none), (4, none), (5, none), (6, none), (7, none), (8, none), (9, none), (10, some 0)], some 11, [], [[]], []⟩, ⟨0, [(12, none)], some 13, [], [[]], []⟩] ?_ ?_; decide +kernel; conv => whnf) | (refine brd (fun h => ?_) (fun h => ?_) <;> conv => whnf) | (refine br (fun h => ?_) (fun h => ?_) <;> conv => whnf) | (refine ret_now hE ?_; conv => whnf) | (intro hlen; conv => whnf) | (refine seg_here ?_; conv => whnf) | (refine both ?_ ?_ <;> conv => whnf))
          refine up_freeze 7 (z := 1) (els := [r0, r1, r2, r3, r4, r5, r6, r7].map (V.int .i64)) rfl ⟨trivial, trivial, trivial, trivial, trivial, trivial, trivial, trivial, trivial⟩ (next_drop [1, 2, 3, 5, 6, 10, 11, 12, 13] [8, 9] (i + 1, S, Nm, R ++ [[r0, r1, r2, r3, r4, r5, r6, r7]], G ++ [_]) ⟨by omega, hO', by rw [List.length_append, hR]; rfl, hR8', hG'⟩ ?_ ?_)
          · show n + 1 - (i + 1) < n + 1 - i
            omega
          conv => whnf
          simp only [kill_nrL _ (nr_rows _), kill_nrL _ (nr_boo _), kill_nrL _ (nr_i64s _), killL_join, frzL_join, e1, e2, frz_nrL _ _ (nr_rows _), frz_nrL _ _ (nr_boo _), frz_nrL _ _ (nr_i64s _), List.map_append, List.length_append]
          rfl
    · obtain rfl : i = S.length := by omega
      have hcan := hO.canon (G := G) hR hR8 (by rw [hG, List.take_length])
      conv => whnf
      repeat' (first | (refine brd_t (by first | assumption | omega) ?_; conv => whnf) | (refine brd_f (by first | assumption | omega) ?_; conv => whnf) | (refine ask (by first | assumption | omega) ?_; conv => whnf) | (refine fit64 (by omega) ?_; conv => whnf) | (refine fit (by simp only [kmin, kmax]; omega) ?_; conv => whnf) | (refine br_t (by assumption) ?_; conv => whnf) | (refine br_f (by assumption) ?_; conv => whnf) | (refine get_of (by assumption) ?_; conv => whnf) | (refine get_map (by assumption) ?_; conv => whnf) | (refine ret_up (up_cell2S 1 2 3 5 6 (y := .int .i64 0) (za := 1) (zb := 1) (la := R.map ints) (lb := G.map V.bool) rfl rfl rfl rfl (by decide) (by decide) (by decide) (nr_rows R) (nr_boo G) hRm.symm hGm.symm (by decide) rfl rfl (up_here (ret_now hE ?_))); conv => whnf) | (refine draw_lex hE ?_ ?_; decide +kernel; conv => whnf) | (refine draw_any hE [⟨0, [(0, none), (1, none), (2, none), (3, none), (4, none), (5, none), (6, none), (7, none), (8, none), (9, none)], none, [], [[]], []⟩] ?_ ?_; decide +kernel; conv => whnf) | (refine draw_any hE [⟨1, [(0, none), (1, none), (2, none), (3, none), (4, none), (5, none), (6, none), (7, none), (8, none), (9, none), (10, some 0)], some 11, [], [[]], []⟩, ⟨0, [(12, none)], some 13, [], [[]], []⟩] ?_ ?_; decide +kernel; conv => whnf) | (refine brd (fun h => ?_) (fun h => ?_) <;> conv => whnf) | (refine br (fun h => ?_) (fun h => ?_) <;> conv => whnf) | (refine ret_now hE ?_; conv => whnf) | (intro hlen; conv => whnf) | (refine seg_here ?_; conv => whnf) | (refine both ?_ ?_ <;> conv => whnf))
      · exact ⟨rfl, .inr ⟨R, G, hcan, by rw [if_neg (by omega)]⟩⟩
      · exact ⟨rfl, .inr ⟨R, G, hcan, by rw [if_pos (by omega)]⟩⟩
  · have hf0 : bt L 0 = false := by
      cases hb : bt L 0 with
      | false => rfl
      | true => exact absurd ((hlive 0 (by omega)).1 hb) hd
    rw [hf0] at g0
    conv => whnf
    repeat' (first | (refine brd_t (by first | assumption | omega) ?_; conv => whnf) | (refine brd_f (by first | assumption | omega) ?_; conv => whnf) | (refine ask (by first | assumption | omega) ?_; conv => whnf) | (refine fit64 (by omega) ?_; conv => whnf) | (refine fit (by simp only [kmin, kmax]; omega) ?_; conv => whnf) | (refine br_t (by assumption) ?_; conv => whnf) | (refine br_f (by assumption) ?_; conv => whnf) | (refine get_of (by assumption) ?_; conv => whnf) | (refine get_map (by assumption) ?_; conv => whnf) | (refine get_of g0 ?_; conv => whnf) | (refine ret_up (up_freeze 0 (z := 1) (els := [.int .i64 (-1), .int .i64 (-1), .int .i64 (-1), .int .i64 (-1), .int .i64 (-1), .int .i64 (-1), .int .i64 (-1), .int .i64 (-1)]) rfl ⟨trivial, trivial, trivial, trivial, trivial, trivial, trivial, trivial, trivial⟩ (up_cell2S 1 2 3 2 4 (y := .int .i64 0) (za := 1) (zb := 1) (la := [ints (List.replicate 8 (-1))]) (lb := [.bool false]) rfl rfl rfl rfl (by decide) (by decide) (by decide) ⟨trivial, trivial⟩ ⟨trivial, trivial⟩ rfl rfl (by decide) rfl rfl (up_here (ret_now hE ?_)))); conv => whnf) | (refine draw_lex hE ?_ ?_; decide +kernel; conv => whnf) | (refine draw_any hE [⟨0, [(0, none), (1, none), (2, none), (3, none), (4, none), (5, none), (6, none), (7, none), (8, none), (9, none)], none, [], [[]], []⟩] ?_ ?_; decide +kernel; conv => whnf) | (refine draw_any hE [⟨1, [(0, none), (1, none), (2, none), (3, none), (4, none), (5, none), (6, none), (7, none), (8, none), (9, none), (10, some 0)], some 11, [], [[]], []⟩, ⟨0, [(12, none)], some 13, [], [[]], []⟩] ?_ ?_; decide +kernel; conv => whnf) | (refine brd (fun h => ?_) (fun h => ?_) <;> conv => whnf) | (refine br (fun h => ?_) (fun h => ?_) <;> conv => whnf) | (refine ret_now hE ?_; conv => whnf) | (intro hlen; conv => whnf) | (refine seg_here ?_; conv => whnf) | (refine both ?_ ?_ <;> conv => whnf))
    exact ⟨rfl, .inl ⟨Classical.byContradiction fun h => hd (alive_iff.2 h), rfl⟩⟩
end Go.Proofs.YtmjglpdfkkmcoaaDoor
