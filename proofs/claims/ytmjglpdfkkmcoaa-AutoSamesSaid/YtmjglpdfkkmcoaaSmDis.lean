/- The table of the states that are told apart, walked. No conditions. -/
import Derived.Test.YtmjglpdfkkmcoaaTabs
import Derived.Test.YtmjglpdfkkmcoaaSmTot
import Derived.Test.YtmjglpdfkkmcoaaSmTab
set_option linter.unusedSimpArgs false
set_option linter.unusedVariables false
set_option maxRecDepth 100000
namespace Go.Proofs.Ytmjglpdfkkmcoaa
open Go.RowKit

def rowO (r : List Bool) : Option Ob := some (.row 1 (r.map V.bool))
theorem mv_bools (a b : Nat) : ∀ L : List Bool, mvL a b (L.map V.bool) = L.map V.bool
  | [] => by simp [mvL]
  | x :: L => by simp [mvL, V.mv, mv_bools a b L]
theorem mvH_rows (a b : Nat) : ∀ D : List (List Bool), mvH a b (D.map rowO ++ [none]) = D.map rowO ++ [none]
  | [] => by simp [mvH]
  | r :: D => by
    rw [List.map_cons, List.cons_append]
    show mvH a b (some (.row 1 (r.map V.bool)) :: (D.map rowO ++ [none])) = some (.row 1 (r.map V.bool)) :: (D.map rowO ++ [none])
    rw [mvH]
    rw [mvH_rows a b D]
    simp only [Ob.mv, mv_bools]
theorem up_push {C : Ctx} {K : ES → Prop} {n : Nat} {u : List (Nat × V)} (X : List Bool) (R : List V) (D : List (List Bool))
    (hk : UpE C K ⟨n, mvU 0 (D.length + 2) u, none :: some (.row 1 (mvL 0 (D.length + 2) R)) :: (D ++ [X]).map rowO⟩) : UpE C K ⟨n, u, some (.row 1 (X.map V.bool)) :: some (.row 1 R) :: D.map rowO⟩ := by
  refine up_long (up_move 0 (D.length + 2) (by omega) (o := .row 1 (X.map V.bool)) rfl ?_ (up_eq hk ?_))
  · simp
  · congr 1
    unfold mvHeap
    have e : mvH 0 (D.length + 2) ((some (Ob.row 1 (X.map V.bool)) :: some (.row 1 R) :: D.map rowO) ++ [none]) = some (.row 1 (X.map V.bool)) :: some (.row 1 (mvL 0 (D.length + 2) R)) :: (D.map rowO ++ [none]) := by
      rw [List.cons_append, List.cons_append, mvH, mvH, mvH_rows]
      simp only [Ob.mv, mv_bools]
    rw [e]
    show none :: some (Ob.row 1 (mvL 0 (D.length + 2) R)) :: (D.map rowO ++ [none]).set D.length (some (.row 1 (X.map V.bool))) = _
    rw [List.set_append_right _ _ (by simp)]
    simp [rowO]
theorem slsV_len (p m n : Nat) : (slsV p m n).length = n := by simp [slsV]
theorem slsV_get {p m n j : Nat} (h : j < n) : (slsV p m n)[j]? = some (.sl (j + p) 0 m) := by
  unfold slsV
  rw [List.getElem?_map, List.getElem?_range h]
  rfl
theorem mv_push (m i k : Nat) (hi : i < k) : mvL 0 (i + 2) ((slsV 2 m i ++ List.replicate (k - i) V.nils).set i (.sl 0 0 m)) = slsV 2 m (i + 1) ++ List.replicate (k - (i + 1)) V.nils := by
  have h1 : ∀ l : List V, mvL 0 (i + 2) l = l.map (V.mv 0 (i + 2)) := fun l => by induction l with
    | nil => simp [mvL]
    | cons x l ih => simp [mvL, ih]
  rw [h1, List.set_append_right _ _ (by rw [slsV_len]; omega), slsV_len, Nat.sub_self]
  obtain ⟨j, hj⟩ : ∃ j, k - i = j + 1 := ⟨k - i - 1, by omega⟩
  rw [hj, List.replicate_succ, List.set_cons_zero, List.map_append, List.map_cons, List.map_replicate]
  have e1 : (slsV 2 m i).map (V.mv 0 (i + 2)) = slsV 2 m i := by
    unfold slsV
    rw [List.map_map]
    refine List.map_congr_left fun x hx => ?_
    simp [V.mv, mvI]
  rw [e1, show k - (i + 1) = j by omega]
  unfold slsV
  rw [List.range_succ, List.map_append]
  simp [V.mv, mvI]
theorem nr_nils : ∀ k : Nat, nrL (List.replicate k V.nils)
  | 0 => trivial
  | k + 1 => ⟨trivial, nr_nils k⟩
theorem rows_get {D : List (List Bool)} {i : Nat} {r : List Bool} (h : D[i]? = some r) : (D.map rowO)[i]? = some (some (.row 1 (r.map V.bool))) := by
  rw [List.getElem?_map, h]; rfl
theorem rows_set {D : List (List Bool)} {i k : Nat} {r : List Bool} (h : D[i]? = some r) : (D.map rowO).set i (some (.row 1 ((r.map V.bool).set k (.bool true)))) = (set2 D i k).map rowO := by
  unfold set2
  rw [h, List.map_set]
  simp only [Option.getD_some, rowO, List.map_set]
theorem sls_at {p m n j : Nat} (h : j < n) : (slsV p m n)[0 + Int.toNat (j : Int)]? = some (.sl (j + p) 0 m) := by
  rw [Nat.zero_add, Int.toNat_natCast, slsV_get h]
theorem nr_boolsD : ∀ L : List Bool, nrL (L.map V.bool)
  | [] => trivial
  | _ :: L => ⟨trivial, nr_boolsD L⟩
theorem bools_at {r : List Bool} {k : Nat} {b : Bool} (h : r[k]? = some b) : (r.map V.bool)[0 + Int.toNat (k : Int)]? = some (.bool b) := by
  rw [Nat.zero_add, Int.toNat_natCast, List.getElem?_map, h]; rfl
set_option maxHeartbeats 16000000 in
theorem distinct_walk {T : List (List Int)} {F : List Bool} {n : Nat} (hT : T.length = n) (hF : F.length = n) (hn : 1 ≤ n) (hn2 : n ≤ 1048576) (hr : ∀ r ∈ T, r.length = 8 ∧ ∀ x ∈ r, 0 ≤ x ∧ x < n) :
    Fn1 Try.prog 13 [totV T F] (fun r => ∃ D : List (List Bool), r = .lst ((D.map (fun r => r.map V.bool)).map V.lst) ∧ Sq n D ∧ Tab (nxT T) (fnF F) n (at2 D)) := by
  have hTm : (T.map ints).length = T.length := by simp
  have hFm : (F.map V.bool).length = F.length := by simp
  have hF0 : ∀ i, i < n → F[i]? = some (fnF F i) := fun i hi => by
    obtain ⟨b, hb⟩ : ∃ b, F[i]? = some b := ⟨_, List.getElem?_eq_getElem (by omega)⟩
    simp [fnF, hb]
  have hT0 : ∀ i c, i < n → c < 8 → ∃ (row : List Int) (x : Int), T[i]? = some row ∧ row.length = 8 ∧ row[c]? = some x ∧ 0 ≤ x ∧ x < n ∧ nxT T i c = x.toNat := fun i c hi hc => by
    obtain ⟨row, hrow⟩ : ∃ b, T[i]? = some b := ⟨_, List.getElem?_eq_getElem (by omega)⟩
    obtain ⟨h8, hx⟩ := hr row (List.mem_of_getElem? hrow)
    obtain ⟨x, hxc⟩ : ∃ b, row[c]? = some b := ⟨_, List.getElem?_eq_getElem (by omega)⟩
    obtain ⟨h1, h2⟩ := hx x (List.mem_of_getElem? hxc)
    exact ⟨row, x, hrow, h8, hxc, h1, h2, by simp [nxT, hrow, hxc]⟩
  have hnx : ∀ i c, i < n → c < 8 → nxT T i c < n := fun i c hi hc => by
    obtain ⟨_, x, _, _, _, h1, h2, e⟩ := hT0 i c hi hc
    rw [e]
    omega
  unfold totV
  refine fn1E (T := Try.tt) Try.func13 rfl tt_all follows_all ?_ ?_ fun C hC hE => ?_
  · kernel_rfl
  · exact Nat.le_of_ble_eq_true (by kernel_rfl)
  conv => whnf
  repeat' (first | (refine brd_t (by first | assumption | omega) ?_; conv => whnf) | (refine brd_f (by first | assumption | omega) ?_; conv => whnf) | (refine ask (by first | assumption | omega) ?_; conv => whnf) | (refine fit64 (by omega) ?_; conv => whnf) | (refine fit (by simp only [kmin, kmax]; omega) ?_; conv => whnf) | (refine br_t (by assumption) ?_; conv => whnf) | (refine br_f (by assumption) ?_; conv => whnf) | (refine get_of (by assumption) ?_; conv => whnf) | (refine get_map (by assumption) ?_; conv => whnf) | (refine draw_lex hE ?_ ?_; decide +kernel; conv => whnf) | (refine draw_any hE [⟨0, [(0, none), (1, none), (2, none), (3, none), (4, none), (5, none), (6, none), (7, none), (8, none), (9, none), (10, none), (11, none), (12, none), (13, none), (14, none), (15, none), (16, none)], some 17, [], [[]]⟩] ?_ ?_; decide +kernel; conv => whnf) | (refine draw_any hE [⟨0, [(0, none), (1, none), (2, none), (3, none), (4, none), (5, none), (6, none), (7, none), (8, none), (9, none), (10, none), (11, none), (12, none), (13, none), (14, none), (15, none), (16, none), (17, none), (18, none), (19, none), (20, none)], none, [], [[]]⟩] ?_ ?_; decide +kernel; conv => whnf) | (refine brd (fun h => ?_) (fun h => ?_) <;> conv => whnf) | (refine br (fun h => ?_) (fun h => ?_) <;> conv => whnf) | (refine ret_now hE ?_; conv => whnf) | (intro hlen; conv => whnf) | (refine seg_here ?_; conv => whnf) | (refine both ?_ ?_ <;> conv => whnf))
  refine loopE (fun ((i, D) : Nat × List (List Bool)) => ⟨108, [(1, .rp [.lst (T.map ints), .lst (F.map V.bool)]), (3, .int .i64 n), (4, .sl 1 0 n), (17, .int .i64 n), (18, .int .i64 i)], none :: some (.row 1 (slsV 2 n i ++ List.replicate (n - i) .nils)) :: D.map rowO⟩)
    (fun (i, D) => i ≤ n ∧ D.length = i ∧ ∀ (j : Nat) (r : List Bool), D[j]? = some r → r.length = n ∧ ∀ k, k < n → r[k]? = some (fnF F j != fnF F k)) (fun (i, _) => n - i) (0, []) hE ?_ ?_ ⟨Nat.zero_le _, rfl, fun j r h => by simp at h⟩ ?_
  · kernel_rfl
  · refine up_freeze 0 (z := 2) (els := [totV T F]) rfl ⟨⟨trivial, trivial, trivial⟩, trivial⟩ (at_keep [1, 3, 4, 17, 18] ?_)
    conv => whnf
    rw [hTm, hT, Int.toNat_natCast, frz_nrL _ _ (nr_nils n)]
    rfl
  rintro ⟨i, D⟩ ⟨hi, hD, hDr⟩
  have hrl : (slsV 2 n i ++ List.replicate (n - i) V.nils).length = n := by simp [slsV_len]; omega
  by_cases hlt : i < n
  · have hg1 : (slsV 2 n i ++ List.replicate (n - i) V.nils)[0 + Int.toNat (i : Int)]? = some .nils := by
      rw [Nat.zero_add, Int.toNat_natCast, List.getElem?_append_right (by rw [slsV_len]; omega), slsV_len, Nat.sub_self, List.getElem?_replicate, if_pos (by omega)]
    have hg2 : ((slsV 2 n i ++ List.replicate (n - i) V.nils).set (0 + Int.toNat (i : Int)) (.sl 0 0 (Int.toNat (n : Int))))[0 + Int.toNat (i : Int)]? = some (.sl 0 0 (Int.toNat (n : Int))) := by
      rw [List.getElem?_set_self (by rw [hrl, Nat.zero_add, Int.toNat_natCast]; exact hlt)]
    conv => whnf
    repeat' (first | (refine brd_t (by first | assumption | omega) ?_; conv => whnf) | (refine brd_f (by first | assumption | omega) ?_; conv => whnf) | (refine ask (by first | assumption | omega) ?_; conv => whnf) | (refine fit64 (by omega) ?_; conv => whnf) | (refine fit (by simp only [kmin, kmax]; omega) ?_; conv => whnf) | (refine br_t (by assumption) ?_; conv => whnf) | (refine br_f (by assumption) ?_; conv => whnf) | (refine get_of (by assumption) ?_; conv => whnf) | (refine get_map (by assumption) ?_; conv => whnf) | (refine fH_go ?_; conv => whnf) | (refine get_of hg1 ?_; conv => whnf) | (refine get_of hg2 ?_; conv => whnf) | (refine draw_lex hE ?_ ?_; decide +kernel; conv => whnf) | (refine draw_any hE [⟨0, [(0, none), (1, none), (2, none), (3, none), (4, none), (5, none), (6, none), (7, none), (8, none), (9, none), (10, none), (11, none), (12, none), (13, none), (14, none), (15, none), (16, none)], some 17, [], [[]]⟩] ?_ ?_; decide +kernel; conv => whnf) | (refine draw_any hE [⟨0, [(0, none), (1, none), (2, none), (3, none), (4, none), (5, none), (6, none), (7, none), (8, none), (9, none), (10, none), (11, none), (12, none), (13, none), (14, none), (15, none), (16, none), (17, none), (18, none), (19, none), (20, none)], none, [], [[]]⟩] ?_ ?_; decide +kernel; conv => whnf) | (refine brd (fun h => ?_) (fun h => ?_) <;> conv => whnf) | (refine br (fun h => ?_) (fun h => ?_) <;> conv => whnf) | (refine ret_now hE ?_; conv => whnf) | (intro hlen; conv => whnf) | (refine seg_here ?_; conv => whnf) | (refine both ?_ ?_ <;> conv => whnf))
    refine loopE (fun ((k, X) : Nat × List Bool) => ⟨108, [(1, .rp [.lst (T.map ints), .lst (F.map V.bool)]), (3, .int .i64 n), (4, .sl 1 0 n), (5, .int .i64 i), (17, .int .i64 n), (18, .int .i64 i), (30, .int .i64 n), (31, .int .i64 k)],
        some (.row 1 (X.map V.bool)) :: some (.row 1 ((slsV 2 n i ++ List.replicate (n - i) V.nils).set i (.sl 0 0 n))) :: D.map rowO⟩)
      (fun (k, X) => k ≤ n ∧ X.length = n ∧ ∀ j, j < k → X[j]? = some (fnF F i != fnF F j)) (fun (k, _) => n - k) (0, List.replicate n false) hE ?_ ?_ ⟨Nat.zero_le _, by simp, fun j hj => by omega⟩ ?_
    · kernel_rfl
    · refine at_keep [1, 3, 4, 5, 17, 18, 30, 31] ?_
      conv => whnf
      refine fH_go ?_
      rw [Int.toNat_natCast, Int.toNat_natCast, Nat.zero_add]
      show _ = (⟨108, _, some (.row 1 ((List.replicate n false).map V.bool)) :: _⟩ : ES)
      rw [List.map_replicate]
      rfl
    rintro ⟨k, X⟩ ⟨hk, hX, hXj⟩
    have hXm : (X.map V.bool).length = X.length := by simp
    have hg3 : ((slsV 2 n i ++ List.replicate (n - i) V.nils).set i (.sl 0 0 n))[0 + Int.toNat (i : Int)]? = some (.sl 0 0 n) := by
      rw [Nat.zero_add, Int.toNat_natCast, List.getElem?_set_self (by rw [hrl]; exact hlt)]
    by_cases hkn : k < n
    · obtain ⟨y, hy⟩ : ∃ y, X[k]? = some y := ⟨_, List.getElem?_eq_getElem (by omega)⟩
      have hg4 := bools_at hy
      have hFi := hF0 i hlt
      have hFk := hF0 k hkn
      have hnew : ∀ b, b = (fnF F i != fnF F k) → (X.set k b).length = n ∧ ∀ j, j < k + 1 → (X.set k b)[j]? = some (fnF F i != fnF F j) := fun b hb => by
        refine ⟨by simp [hX], fun j hj => ?_⟩
        rw [List.getElem?_set]
        split
        · rename_i e; subst e; rw [if_pos (by omega), hb]
        · exact hXj j (by omega)
      generalize fnF F k = bk at hFk hnew
      obtain ⟨bi, hbi⟩ : ∃ bi, fnF F i = bi := ⟨_, rfl⟩
      rw [hbi] at hFi
      cases bi
      all_goals cases bk
      all_goals
        conv => whnf
        repeat' (first | (refine brd_t (by first | assumption | omega) ?_; conv => whnf) | (refine brd_f (by first | assumption | omega) ?_; conv => whnf) | (refine ask (by first | assumption | omega) ?_; conv => whnf) | (refine fit64 (by omega) ?_; conv => whnf) | (refine fit (by simp only [kmin, kmax]; omega) ?_; conv => whnf) | (refine br_t (by assumption) ?_; conv => whnf) | (refine br_f (by assumption) ?_; conv => whnf) | (refine get_of (by assumption) ?_; conv => whnf) | (refine get_map (by assumption) ?_; conv => whnf) | (refine fH_go ?_; conv => whnf) | (refine get_of hg3 ?_; conv => whnf) | (refine get_of hg4 ?_; conv => whnf) | (refine draw_lex hE ?_ ?_; decide +kernel; conv => whnf) | (refine draw_any hE [⟨0, [(0, none), (1, none), (2, none), (3, none), (4, none), (5, none), (6, none), (7, none), (8, none), (9, none), (10, none), (11, none), (12, none), (13, none), (14, none), (15, none), (16, none)], some 17, [], [[]]⟩] ?_ ?_; decide +kernel; conv => whnf) | (refine draw_any hE [⟨0, [(0, none), (1, none), (2, none), (3, none), (4, none), (5, none), (6, none), (7, none), (8, none), (9, none), (10, none), (11, none), (12, none), (13, none), (14, none), (15, none), (16, none), (17, none), (18, none), (19, none), (20, none)], none, [], [[]]⟩] ?_ ?_; decide +kernel; conv => whnf) | (refine brd (fun h => ?_) (fun h => ?_) <;> conv => whnf) | (refine br (fun h => ?_) (fun h => ?_) <;> conv => whnf) | (refine ret_now hE ?_; conv => whnf) | (intro hlen; conv => whnf) | (refine seg_here ?_; conv => whnf) | (refine both ?_ ?_ <;> conv => whnf))
        refine next_keep [1, 3, 4, 5, 17, 18, 30, 31] (k + 1, X.set k _) ⟨hkn, hnew _ rfl⟩ (by show n - (k + 1) < n - k; omega) ?_
        conv => whnf
        refine fH_go ?_
        rw [Nat.zero_add, Int.toNat_natCast]
        show _ = (⟨108, _, some (.row 1 ((X.set k _).map V.bool)) :: _⟩ : ES)
        rw [List.map_set, hbi]
        rfl
    · conv => whnf
      repeat' (first | (refine brd_t (by first | assumption | omega) ?_; conv => whnf) | (refine brd_f (by first | assumption | omega) ?_; conv => whnf) | (refine ask (by first | assumption | omega) ?_; conv => whnf) | (refine fit64 (by omega) ?_; conv => whnf) | (refine fit (by simp only [kmin, kmax]; omega) ?_; conv => whnf) | (refine br_t (by assumption) ?_; conv => whnf) | (refine br_f (by assumption) ?_; conv => whnf) | (refine get_of (by assumption) ?_; conv => whnf) | (refine get_map (by assumption) ?_; conv => whnf) | (refine fH_go ?_; conv => whnf) | (refine draw_lex hE ?_ ?_; decide +kernel; conv => whnf) | (refine draw_any hE [⟨0, [(0, none), (1, none), (2, none), (3, none), (4, none), (5, none), (6, none), (7, none), (8, none), (9, none), (10, none), (11, none), (12, none), (13, none), (14, none), (15, none), (16, none)], some 17, [], [[]]⟩] ?_ ?_; decide +kernel; conv => whnf) | (refine draw_any hE [⟨0, [(0, none), (1, none), (2, none), (3, none), (4, none), (5, none), (6, none), (7, none), (8, none), (9, none), (10, none), (11, none), (12, none), (13, none), (14, none), (15, none), (16, none), (17, none), (18, none), (19, none), (20, none)], none, [], [[]]⟩] ?_ ?_; decide +kernel; conv => whnf) | (refine brd (fun h => ?_) (fun h => ?_) <;> conv => whnf) | (refine br (fun h => ?_) (fun h => ?_) <;> conv => whnf) | (refine ret_now hE ?_; conv => whnf) | (intro hlen; conv => whnf) | (refine seg_here ?_; conv => whnf) | (refine both ?_ ?_ <;> conv => whnf))
      refine up_push X _ D (next_keep [1, 3, 4, 17, 18] (i + 1, D ++ [X]) ⟨hlt, by simp [hD], fun j r hj => ?_⟩ (by show n - (i + 1) < n - i; omega) ?_)
      · rw [List.getElem?_append] at hj
        split at hj
        · exact hDr j r hj
        · rename_i hjn
          obtain ⟨rfl, rfl⟩ : j = i ∧ r = X := by
            match hk : j - D.length with
            | 0 => rw [hk] at hj; cases hj; exact ⟨by omega, rfl⟩
            | k + 1 => rw [hk] at hj; simp at hj
          exact ⟨hX, fun k' hk' => hXj k' (by omega)⟩
      · conv => whnf
        refine fH_go ?_
        rw [hD, mv_push n i n hlt]
        rfl
  · obtain rfl : i = n := by omega
    have hsq : Sq i D := ⟨hD, fun r hr => by obtain ⟨j, hj⟩ := List.mem_iff_getElem?.1 hr; exact (hDr j r hj).1⟩
    have hs0 : Snd T F i D := ⟨hsq, fun a b ha hb e => by
        obtain ⟨r, hr1, hl, hb2⟩ := hsq.get2 ha hb
        rw [(hDr a r hr1).2 b hb, e] at hb2
        exact ⟨[], by simp [wordOk], by simpa using hb2⟩, fun a b ha hb e => by
        obtain ⟨r, hr1, hl, hb2⟩ := hsq.get2 ha hb
        rw [(hDr a r hr1).2 b hb] at hb2
        simp only [Option.some.injEq] at hb2
        rw [← hb2]
        simpa using e⟩
    have hss : (slsV 2 i i).length = i := slsV_len 2 i i
    conv => whnf
    repeat' (first | (refine brd_t (by first | assumption | omega) ?_; conv => whnf) | (refine brd_f (by first | assumption | omega) ?_; conv => whnf) | (refine ask (by first | assumption | omega) ?_; conv => whnf) | (refine fit64 (by omega) ?_; conv => whnf) | (refine fit (by simp only [kmin, kmax]; omega) ?_; conv => whnf) | (refine br_t (by assumption) ?_; conv => whnf) | (refine br_f (by assumption) ?_; conv => whnf) | (refine get_of (by assumption) ?_; conv => whnf) | (refine get_map (by assumption) ?_; conv => whnf) | (refine draw_lex hE ?_ ?_; decide +kernel; conv => whnf) | (refine draw_any hE [⟨0, [(0, none), (1, none), (2, none), (3, none), (4, none), (5, none), (6, none), (7, none), (8, none), (9, none), (10, none), (11, none), (12, none), (13, none), (14, none), (15, none), (16, none)], some 17, [], [[]]⟩] ?_ ?_; decide +kernel; conv => whnf) | (refine draw_any hE [⟨0, [(0, none), (1, none), (2, none), (3, none), (4, none), (5, none), (6, none), (7, none), (8, none), (9, none), (10, none), (11, none), (12, none), (13, none), (14, none), (15, none), (16, none), (17, none), (18, none), (19, none), (20, none)], none, [], [[]]⟩] ?_ ?_; decide +kernel; conv => whnf) | (refine brd (fun h => ?_) (fun h => ?_) <;> conv => whnf) | (refine br (fun h => ?_) (fun h => ?_) <;> conv => whnf) | (refine ret_now hE ?_; conv => whnf) | (intro hlen; conv => whnf) | (refine seg_here ?_; conv => whnf) | (refine both ?_ ?_ <;> conv => whnf))
    refine loopE (fun ((D, more) : List (List Bool) × Bool) => ⟨108, [(1, .rp [.lst (T.map ints), .lst (F.map V.bool)]), (4, .sl 1 0 i), (7, .bool more)], none :: some (.row 1 (slsV 2 i i)) :: D.map rowO⟩)
      (fun (D, more) => Snd T F i D ∧ (more = false → Tab (nxT T) (fnF F) i (at2 D))) (fun (D, more) => 2 * cnt D + more.toNat) (D, true) hE ?_ ?_ ⟨hs0, fun h => by cases h⟩ ?_
    · kernel_rfl
    · refine at_keep [1, 4, 7] ?_
      conv => whnf
      refine fH_go ?_
      rw [Nat.sub_self, List.replicate_zero, List.append_nil]
    rintro ⟨D0, more⟩ ⟨hS0, hmore⟩
    cases more with
    | false =>
      have hD0 := hS0.sq.len
      conv => whnf
      repeat' (first | (refine brd_t (by first | assumption | omega) ?_; conv => whnf) | (refine brd_f (by first | assumption | omega) ?_; conv => whnf) | (refine ask (by first | assumption | omega) ?_; conv => whnf) | (refine fit64 (by omega) ?_; conv => whnf) | (refine fit (by simp only [kmin, kmax]; omega) ?_; conv => whnf) | (refine br_t (by assumption) ?_; conv => whnf) | (refine br_f (by assumption) ?_; conv => whnf) | (refine get_of (by assumption) ?_; conv => whnf) | (refine get_map (by assumption) ?_; conv => whnf) | (refine ret_up (up_rowsE 2 1 [none, some (.row 1 (slsV 2 i i))] (m := i) (D0.map fun r => r.map V.bool) ?_ ?_ ?_ ?_ (up_here (ret_now hE ?_)))) | (refine draw_lex hE ?_ ?_; decide +kernel; conv => whnf) | (refine draw_any hE [⟨0, [(0, none), (1, none), (2, none), (3, none), (4, none), (5, none), (6, none), (7, none), (8, none), (9, none), (10, none), (11, none), (12, none), (13, none), (14, none), (15, none), (16, none)], some 17, [], [[]]⟩] ?_ ?_; decide +kernel; conv => whnf) | (refine draw_any hE [⟨0, [(0, none), (1, none), (2, none), (3, none), (4, none), (5, none), (6, none), (7, none), (8, none), (9, none), (10, none), (11, none), (12, none), (13, none), (14, none), (15, none), (16, none), (17, none), (18, none), (19, none), (20, none)], none, [], [[]]⟩] ?_ ?_; decide +kernel; conv => whnf) | (refine brd (fun h => ?_) (fun h => ?_) <;> conv => whnf) | (refine br (fun h => ?_) (fun h => ?_) <;> conv => whnf) | (refine ret_now hE ?_; conv => whnf) | (intro hlen; conv => whnf) | (refine seg_here ?_; conv => whnf) | (refine both ?_ ?_ <;> conv => whnf))
      · rw [List.map_map]
        rfl
      · show some (some (Ob.row 1 (slsV 2 i i))) = some (some (Ob.row 1 (slsV 2 i (D0.map fun r => r.map V.bool).length)))
        rw [List.length_map, hD0]
      · obtain ⟨q, hq, rfl⟩ := List.mem_map.1 hlen
        exact ⟨by rw [List.length_map]; exact hS0.sq.row q hq, nr_boolsD q, cells_bool q⟩
      · show V.sl 1 0 i = _
        rw [List.length_map, hD0]
      · conv => whnf
        exact ⟨rfl, D0, rfl, hS0.sq, hmore rfl⟩
    | true =>
      conv => whnf
      repeat' (first | (refine brd_t (by first | assumption | omega) ?_; conv => whnf) | (refine brd_f (by first | assumption | omega) ?_; conv => whnf) | (refine ask (by first | assumption | omega) ?_; conv => whnf) | (refine fit64 (by omega) ?_; conv => whnf) | (refine fit (by simp only [kmin, kmax]; omega) ?_; conv => whnf) | (refine br_t (by assumption) ?_; conv => whnf) | (refine br_f (by assumption) ?_; conv => whnf) | (refine get_of (by assumption) ?_; conv => whnf) | (refine get_map (by assumption) ?_; conv => whnf) | (refine draw_lex hE ?_ ?_; decide +kernel; conv => whnf) | (refine draw_any hE [⟨0, [(0, none), (1, none), (2, none), (3, none), (4, none), (5, none), (6, none), (7, none), (8, none), (9, none), (10, none), (11, none), (12, none), (13, none), (14, none), (15, none), (16, none)], some 17, [], [[]]⟩] ?_ ?_; decide +kernel; conv => whnf) | (refine draw_any hE [⟨0, [(0, none), (1, none), (2, none), (3, none), (4, none), (5, none), (6, none), (7, none), (8, none), (9, none), (10, none), (11, none), (12, none), (13, none), (14, none), (15, none), (16, none), (17, none), (18, none), (19, none), (20, none)], none, [], [[]]⟩] ?_ ?_; decide +kernel; conv => whnf) | (refine brd (fun h => ?_) (fun h => ?_) <;> conv => whnf) | (refine br (fun h => ?_) (fun h => ?_) <;> conv => whnf) | (refine ret_now hE ?_; conv => whnf) | (intro hlen; conv => whnf) | (refine seg_here ?_; conv => whnf) | (refine both ?_ ?_ <;> conv => whnf))
      refine loopE (fun ((a, D, more) : Nat × List (List Bool) × Bool) => ⟨108, [(1, .rp [.lst (T.map ints), .lst (F.map V.bool)]), (4, .sl 1 0 i), (7, .bool more), (55, .int .i64 i), (56, .int .i64 a)], none :: some (.row 1 (slsV 2 i i)) :: D.map rowO⟩)
        (fun (a, D, more) => a ≤ i ∧ RInv T F i D0 D more a 0 0) (fun (a, _, _) => i - a) (0, D0, false) hE ?_ ?_ ⟨Nat.zero_le _, RInv.start hS0⟩ ?_
      · kernel_rfl
      · refine at_keep [1, 4, 7, 55, 56] ?_
        conv => whnf
        refine fH_go ?_
        rfl
      rintro ⟨a, D, more⟩ ⟨ha, hI⟩
      by_cases hai : a < i
      · conv => whnf
        repeat' (first | (refine brd_t (by first | assumption | omega) ?_; conv => whnf) | (refine brd_f (by first | assumption | omega) ?_; conv => whnf) | (refine ask (by first | assumption | omega) ?_; conv => whnf) | (refine fit64 (by omega) ?_; conv => whnf) | (refine fit (by simp only [kmin, kmax]; omega) ?_; conv => whnf) | (refine br_t (by assumption) ?_; conv => whnf) | (refine br_f (by assumption) ?_; conv => whnf) | (refine get_of (by assumption) ?_; conv => whnf) | (refine get_map (by assumption) ?_; conv => whnf) | (refine draw_lex hE ?_ ?_; decide +kernel; conv => whnf) | (refine draw_any hE [⟨0, [(0, none), (1, none), (2, none), (3, none), (4, none), (5, none), (6, none), (7, none), (8, none), (9, none), (10, none), (11, none), (12, none), (13, none), (14, none), (15, none), (16, none)], some 17, [], [[]]⟩] ?_ ?_; decide +kernel; conv => whnf) | (refine draw_any hE [⟨0, [(0, none), (1, none), (2, none), (3, none), (4, none), (5, none), (6, none), (7, none), (8, none), (9, none), (10, none), (11, none), (12, none), (13, none), (14, none), (15, none), (16, none), (17, none), (18, none), (19, none), (20, none)], none, [], [[]]⟩] ?_ ?_; decide +kernel; conv => whnf) | (refine brd (fun h => ?_) (fun h => ?_) <;> conv => whnf) | (refine br (fun h => ?_) (fun h => ?_) <;> conv => whnf) | (refine ret_now hE ?_; conv => whnf) | (intro hlen; conv => whnf) | (refine seg_here ?_; conv => whnf) | (refine both ?_ ?_ <;> conv => whnf))
        refine loopE (fun ((b, D, more) : Nat × List (List Bool) × Bool) => ⟨108, [(1, .rp [.lst (T.map ints), .lst (F.map V.bool)]), (4, .sl 1 0 i), (7, .bool more), (8, .int .i64 a), (55, .int .i64 i), (56, .int .i64 a), (60, .int .i64 i), (61, .int .i64 b)], none :: some (.row 1 (slsV 2 i i)) :: D.map rowO⟩)
          (fun (b, D, more) => b ≤ i ∧ RInv T F i D0 D more a b 0) (fun (b, _, _) => i - b) (0, D, more) hE ?_ ?_ ⟨Nat.zero_le _, hI⟩ ?_
        · kernel_rfl
        · refine at_keep [1, 4, 7, 8, 55, 56, 60, 61] ?_
          conv => whnf
          refine fH_go ?_
          rfl
        clear hI
        rintro ⟨b, D, more⟩ ⟨hb, hI⟩
        by_cases hbi : b < i
        · conv => whnf
          repeat' (first | (refine brd_t (by first | assumption | omega) ?_; conv => whnf) | (refine brd_f (by first | assumption | omega) ?_; conv => whnf) | (refine ask (by first | assumption | omega) ?_; conv => whnf) | (refine fit64 (by omega) ?_; conv => whnf) | (refine fit (by simp only [kmin, kmax]; omega) ?_; conv => whnf) | (refine br_t (by assumption) ?_; conv => whnf) | (refine br_f (by assumption) ?_; conv => whnf) | (refine get_of (by assumption) ?_; conv => whnf) | (refine get_map (by assumption) ?_; conv => whnf) | (refine draw_lex hE ?_ ?_; decide +kernel; conv => whnf) | (refine draw_any hE [⟨0, [(0, none), (1, none), (2, none), (3, none), (4, none), (5, none), (6, none), (7, none), (8, none), (9, none), (10, none), (11, none), (12, none), (13, none), (14, none), (15, none), (16, none)], some 17, [], [[]]⟩] ?_ ?_; decide +kernel; conv => whnf) | (refine draw_any hE [⟨0, [(0, none), (1, none), (2, none), (3, none), (4, none), (5, none), (6, none), (7, none), (8, none), (9, none), (10, none), (11, none), (12, none), (13, none), (14, none), (15, none), (16, none), (17, none), (18, none), (19, none), (20, none)], none, [], [[]]⟩] ?_ ?_; decide +kernel; conv => whnf) | (refine brd (fun h => ?_) (fun h => ?_) <;> conv => whnf) | (refine br (fun h => ?_) (fun h => ?_) <;> conv => whnf) | (refine ret_now hE ?_; conv => whnf) | (intro hlen; conv => whnf) | (refine seg_here ?_; conv => whnf) | (refine both ?_ ?_ <;> conv => whnf))
          refine loopE (fun ((c, D, more) : Nat × List (List Bool) × Bool) => ⟨108, [(1, .rp [.lst (T.map ints), .lst (F.map V.bool)]), (4, .sl 1 0 i), (7, .bool more), (8, .int .i64 a), (9, .int .i64 b), (10, .int .i64 c), (55, .int .i64 i), (56, .int .i64 a), (60, .int .i64 i), (61, .int .i64 b)], none :: some (.row 1 (slsV 2 i i)) :: D.map rowO⟩)
            (fun (c, D, more) => c ≤ 8 ∧ RInv T F i D0 D more a b c) (fun (c, _, _) => 8 - c) (0, D, more) hE ?_ ?_ ⟨Nat.zero_le _, hI⟩ ?_
          · kernel_rfl
          · refine at_keep [1, 4, 7, 8, 9, 10, 55, 56, 60, 61] ?_
            conv => whnf
            refine fH_go ?_
            rfl
          clear hI
          rintro ⟨c, D, more⟩ ⟨hc, hI⟩
          obtain ⟨ra, hra, hral, hrab⟩ := hI.snd.sq.get2 hai hbi
          have hram : (ra.map V.bool).length = ra.length := by simp
          have g1 := sls_at (p := 2) (m := i) hai
          have g2 := rows_get hra
          by_cases hc8 : c < 8
          · cases hab : at2 D a b with
            | true =>
              rw [hab] at hrab
              have g3 := bools_at hrab
              conv => whnf
              repeat' (first | (refine brd_t (by first | assumption | omega) ?_; conv => whnf) | (refine brd_f (by first | assumption | omega) ?_; conv => whnf) | (refine ask (by first | assumption | omega) ?_; conv => whnf) | (refine fit64 (by omega) ?_; conv => whnf) | (refine fit (by simp only [kmin, kmax]; omega) ?_; conv => whnf) | (refine br_t (by assumption) ?_; conv => whnf) | (refine br_f (by assumption) ?_; conv => whnf) | (refine get_of (by assumption) ?_; conv => whnf) | (refine get_map (by assumption) ?_; conv => whnf) | (refine get_of g1 ?_; conv => whnf) | (refine get_of g2 ?_; conv => whnf) | (refine get_of g3 ?_; conv => whnf) | (refine draw_lex hE ?_ ?_; decide +kernel; conv => whnf) | (refine draw_any hE [⟨0, [(0, none), (1, none), (2, none), (3, none), (4, none), (5, none), (6, none), (7, none), (8, none), (9, none), (10, none), (11, none), (12, none), (13, none), (14, none), (15, none), (16, none)], some 17, [], [[]]⟩] ?_ ?_; decide +kernel; conv => whnf) | (refine draw_any hE [⟨0, [(0, none), (1, none), (2, none), (3, none), (4, none), (5, none), (6, none), (7, none), (8, none), (9, none), (10, none), (11, none), (12, none), (13, none), (14, none), (15, none), (16, none), (17, none), (18, none), (19, none), (20, none)], none, [], [[]]⟩] ?_ ?_; decide +kernel; conv => whnf) | (refine brd (fun h => ?_) (fun h => ?_) <;> conv => whnf) | (refine br (fun h => ?_) (fun h => ?_) <;> conv => whnf) | (refine ret_now hE ?_; conv => whnf) | (intro hlen; conv => whnf) | (refine seg_here ?_; conv => whnf) | (refine both ?_ ?_ <;> conv => whnf))
              refine next_keep [1, 4, 7, 8, 55, 56, 60, 61] (b + 1, D, more) ⟨hbi, hI.told hab⟩ (by show i - (b + 1) < i - b; omega) ?_
              conv => whnf
              refine fH_go ?_
              rfl
            | false =>
              rw [hab] at hrab
              have g3 := bools_at hrab
              obtain ⟨rowa, x, hrowa, ha8, hxc, hx0, hxi, ex⟩ := hT0 a c hai hc8
              obtain ⟨rowb, y, hrowb, hb8, hyc, hy0, hyi, ey⟩ := hT0 b c hbi hc8
              have hrma : (rowa.map (V.int .i64)).length = rowa.length := by simp
              have hrmb : (rowb.map (V.int .i64)).length = rowb.length := by simp
              have hxn : x.toNat < i := by omega
              have hyn : y.toNat < i := by omega
              obtain ⟨rx, hrx, hrxl, hrxy⟩ := hI.snd.sq.get2 hxn hyn
              have hrxm : (rx.map V.bool).length = rx.length := by simp
              have g4 : (slsV 2 i i)[0 + Int.toNat x]? = some (.sl (x.toNat + 2) 0 i) := by rw [Nat.zero_add, slsV_get hxn]
              have g5 := rows_get hrx
              have g6 : (rx.map V.bool)[0 + Int.toNat y]? = some (.bool (at2 D x.toNat y.toNat)) := by rw [Nat.zero_add, List.getElem?_map, hrxy]; rfl
              have gc1 : rowa[Int.toNat (c : Int)]? = some x := by rw [Int.toNat_natCast]; exact hxc
              have gc2 : rowb[Int.toNat (c : Int)]? = some y := by rw [Int.toNat_natCast]; exact hyc
              have gr1 : T[Int.toNat (a : Int)]? = some rowa := by rw [Int.toNat_natCast]; exact hrowa
              have gr2 : T[Int.toNat (b : Int)]? = some rowb := by rw [Int.toNat_natCast]; exact hrowb
              have hse := rows_set (k := b) hra
              cases hxy : at2 D x.toNat y.toNat
              all_goals rw [hxy] at g6
              · conv => whnf
                repeat' (first | (refine brd_t (by first | assumption | omega) ?_; conv => whnf) | (refine brd_f (by first | assumption | omega) ?_; conv => whnf) | (refine ask (by first | assumption | omega) ?_; conv => whnf) | (refine fit64 (by omega) ?_; conv => whnf) | (refine fit (by simp only [kmin, kmax]; omega) ?_; conv => whnf) | (refine br_t (by assumption) ?_; conv => whnf) | (refine br_f (by assumption) ?_; conv => whnf) | (refine get_of (by assumption) ?_; conv => whnf) | (refine get_map (by assumption) ?_; conv => whnf) | (rewrite [g1]; conv => whnf) | (rewrite [g2]; conv => whnf) | (rewrite [g3]; conv => whnf) | (rewrite [g4]; conv => whnf) | (rewrite [g5]; conv => whnf) | (rewrite [g6]; conv => whnf) | (refine get_map gr1 ?_; conv => whnf) | (refine get_map gr2 ?_; conv => whnf) | (refine get_map gc1 ?_; conv => whnf) | (refine get_map gc2 ?_; conv => whnf) | (refine draw_lex hE ?_ ?_; decide +kernel; conv => whnf) | (refine draw_any hE [⟨0, [(0, none), (1, none), (2, none), (3, none), (4, none), (5, none), (6, none), (7, none), (8, none), (9, none), (10, none), (11, none), (12, none), (13, none), (14, none), (15, none), (16, none)], some 17, [], [[]]⟩] ?_ ?_; decide +kernel; conv => whnf) | (refine draw_any hE [⟨0, [(0, none), (1, none), (2, none), (3, none), (4, none), (5, none), (6, none), (7, none), (8, none), (9, none), (10, none), (11, none), (12, none), (13, none), (14, none), (15, none), (16, none), (17, none), (18, none), (19, none), (20, none)], none, [], [[]]⟩] ?_ ?_; decide +kernel; conv => whnf) | (refine brd (fun h => ?_) (fun h => ?_) <;> conv => whnf) | (refine br (fun h => ?_) (fun h => ?_) <;> conv => whnf) | (refine ret_now hE ?_; conv => whnf) | (intro hlen; conv => whnf) | (refine seg_here ?_; conv => whnf) | (refine both ?_ ?_ <;> conv => whnf))
                refine next_keep [1, 4, 7, 8, 9, 10, 55, 56, 60, 61] (c + 1, D, more) ⟨hc8, hI.pass (by rw [ex, ey]; exact hxy)⟩ (by show 8 - (c + 1) < 8 - c; omega) ?_
                conv => whnf
                refine fH_go ?_
                rfl
              · conv => whnf
                repeat' (first | (refine brd_t (by first | assumption | omega) ?_; conv => whnf) | (refine brd_f (by first | assumption | omega) ?_; conv => whnf) | (refine ask (by first | assumption | omega) ?_; conv => whnf) | (refine fit64 (by omega) ?_; conv => whnf) | (refine fit (by simp only [kmin, kmax]; omega) ?_; conv => whnf) | (refine br_t (by assumption) ?_; conv => whnf) | (refine br_f (by assumption) ?_; conv => whnf) | (refine get_of (by assumption) ?_; conv => whnf) | (refine get_map (by assumption) ?_; conv => whnf) | (refine fH_go ?_; conv => whnf) | (rewrite [g1]; conv => whnf) | (rewrite [g2]; conv => whnf) | (rewrite [g3]; conv => whnf) | (rewrite [g4]; conv => whnf) | (rewrite [g5]; conv => whnf) | (rewrite [g6]; conv => whnf) | (refine get_map gr1 ?_; conv => whnf) | (refine get_map gr2 ?_; conv => whnf) | (refine get_map gc1 ?_; conv => whnf) | (refine get_map gc2 ?_; conv => whnf) | (refine draw_lex hE ?_ ?_; decide +kernel; conv => whnf) | (refine draw_any hE [⟨0, [(0, none), (1, none), (2, none), (3, none), (4, none), (5, none), (6, none), (7, none), (8, none), (9, none), (10, none), (11, none), (12, none), (13, none), (14, none), (15, none), (16, none)], some 17, [], [[]]⟩] ?_ ?_; decide +kernel; conv => whnf) | (refine draw_any hE [⟨0, [(0, none), (1, none), (2, none), (3, none), (4, none), (5, none), (6, none), (7, none), (8, none), (9, none), (10, none), (11, none), (12, none), (13, none), (14, none), (15, none), (16, none), (17, none), (18, none), (19, none), (20, none)], none, [], [[]]⟩] ?_ ?_; decide +kernel; conv => whnf) | (refine brd (fun h => ?_) (fun h => ?_) <;> conv => whnf) | (refine br (fun h => ?_) (fun h => ?_) <;> conv => whnf) | (refine ret_now hE ?_; conv => whnf) | (intro hlen; conv => whnf) | (refine seg_here ?_; conv => whnf) | (refine both ?_ ?_ <;> conv => whnf))
                refine next_keep [1, 4, 7, 8, 9, 10, 55, 56, 60, 61] (c + 1, set2 D a b, true) ⟨hc8, hI.put hnx hai hbi hc8 hab (by rw [ex, ey]; exact hxy) _⟩ (by show 8 - (c + 1) < 8 - c; omega) ?_
                conv => whnf
                refine fH_go ?_
                rw [Nat.zero_add, Int.toNat_natCast, hse]
                rfl
          · obtain rfl : c = 8 := by omega
            conv => whnf
            repeat' (first | (refine brd_t (by first | assumption | omega) ?_; conv => whnf) | (refine brd_f (by first | assumption | omega) ?_; conv => whnf) | (refine ask (by first | assumption | omega) ?_; conv => whnf) | (refine fit64 (by omega) ?_; conv => whnf) | (refine fit (by simp only [kmin, kmax]; omega) ?_; conv => whnf) | (refine br_t (by assumption) ?_; conv => whnf) | (refine br_f (by assumption) ?_; conv => whnf) | (refine get_of (by assumption) ?_; conv => whnf) | (refine get_map (by assumption) ?_; conv => whnf) | (refine draw_lex hE ?_ ?_; decide +kernel; conv => whnf) | (refine draw_any hE [⟨0, [(0, none), (1, none), (2, none), (3, none), (4, none), (5, none), (6, none), (7, none), (8, none), (9, none), (10, none), (11, none), (12, none), (13, none), (14, none), (15, none), (16, none)], some 17, [], [[]]⟩] ?_ ?_; decide +kernel; conv => whnf) | (refine draw_any hE [⟨0, [(0, none), (1, none), (2, none), (3, none), (4, none), (5, none), (6, none), (7, none), (8, none), (9, none), (10, none), (11, none), (12, none), (13, none), (14, none), (15, none), (16, none), (17, none), (18, none), (19, none), (20, none)], none, [], [[]]⟩] ?_ ?_; decide +kernel; conv => whnf) | (refine brd (fun h => ?_) (fun h => ?_) <;> conv => whnf) | (refine br (fun h => ?_) (fun h => ?_) <;> conv => whnf) | (refine ret_now hE ?_; conv => whnf) | (intro hlen; conv => whnf) | (refine seg_here ?_; conv => whnf) | (refine both ?_ ?_ <;> conv => whnf))
            refine next_keep [1, 4, 7, 8, 55, 56, 60, 61] (b + 1, D, more) ⟨hbi, hI.full (by omega)⟩ (by show i - (b + 1) < i - b; omega) ?_
            conv => whnf
            refine fH_go ?_
            rfl
        · conv => whnf
          repeat' (first | (refine brd_t (by first | assumption | omega) ?_; conv => whnf) | (refine brd_f (by first | assumption | omega) ?_; conv => whnf) | (refine ask (by first | assumption | omega) ?_; conv => whnf) | (refine fit64 (by omega) ?_; conv => whnf) | (refine fit (by simp only [kmin, kmax]; omega) ?_; conv => whnf) | (refine br_t (by assumption) ?_; conv => whnf) | (refine br_f (by assumption) ?_; conv => whnf) | (refine get_of (by assumption) ?_; conv => whnf) | (refine get_map (by assumption) ?_; conv => whnf) | (refine draw_lex hE ?_ ?_; decide +kernel; conv => whnf) | (refine draw_any hE [⟨0, [(0, none), (1, none), (2, none), (3, none), (4, none), (5, none), (6, none), (7, none), (8, none), (9, none), (10, none), (11, none), (12, none), (13, none), (14, none), (15, none), (16, none)], some 17, [], [[]]⟩] ?_ ?_; decide +kernel; conv => whnf) | (refine draw_any hE [⟨0, [(0, none), (1, none), (2, none), (3, none), (4, none), (5, none), (6, none), (7, none), (8, none), (9, none), (10, none), (11, none), (12, none), (13, none), (14, none), (15, none), (16, none), (17, none), (18, none), (19, none), (20, none)], none, [], [[]]⟩] ?_ ?_; decide +kernel; conv => whnf) | (refine brd (fun h => ?_) (fun h => ?_) <;> conv => whnf) | (refine br (fun h => ?_) (fun h => ?_) <;> conv => whnf) | (refine ret_now hE ?_; conv => whnf) | (intro hlen; conv => whnf) | (refine seg_here ?_; conv => whnf) | (refine both ?_ ?_ <;> conv => whnf))
          refine next_keep [1, 4, 7, 55, 56] (a + 1, D, more) ⟨hai, hI.row (by omega)⟩ (by show i - (a + 1) < i - a; omega) ?_
          conv => whnf
          refine fH_go ?_
          rfl
      · conv => whnf
        repeat' (first | (refine brd_t (by first | assumption | omega) ?_; conv => whnf) | (refine brd_f (by first | assumption | omega) ?_; conv => whnf) | (refine ask (by first | assumption | omega) ?_; conv => whnf) | (refine fit64 (by omega) ?_; conv => whnf) | (refine fit (by simp only [kmin, kmax]; omega) ?_; conv => whnf) | (refine br_t (by assumption) ?_; conv => whnf) | (refine br_f (by assumption) ?_; conv => whnf) | (refine get_of (by assumption) ?_; conv => whnf) | (refine get_map (by assumption) ?_; conv => whnf) | (refine draw_lex hE ?_ ?_; decide +kernel; conv => whnf) | (refine draw_any hE [⟨0, [(0, none), (1, none), (2, none), (3, none), (4, none), (5, none), (6, none), (7, none), (8, none), (9, none), (10, none), (11, none), (12, none), (13, none), (14, none), (15, none), (16, none)], some 17, [], [[]]⟩] ?_ ?_; decide +kernel; conv => whnf) | (refine draw_any hE [⟨0, [(0, none), (1, none), (2, none), (3, none), (4, none), (5, none), (6, none), (7, none), (8, none), (9, none), (10, none), (11, none), (12, none), (13, none), (14, none), (15, none), (16, none), (17, none), (18, none), (19, none), (20, none)], none, [], [[]]⟩] ?_ ?_; decide +kernel; conv => whnf) | (refine brd (fun h => ?_) (fun h => ?_) <;> conv => whnf) | (refine br (fun h => ?_) (fun h => ?_) <;> conv => whnf) | (refine ret_now hE ?_; conv => whnf) | (intro hlen; conv => whnf) | (refine seg_here ?_; conv => whnf) | (refine both ?_ ?_ <;> conv => whnf))
        refine next_keep [1, 4, 7] (D, more) ⟨hI.snd, fun e => by subst e; exact hI.done (by omega)⟩ ?_ ?_
        · show 2 * cnt D + more.toNat < 2 * cnt D0 + 1
          rcases hI.so with ⟨rfl, rfl, _⟩ | ⟨rfl, h⟩
          · simp
          · simp; omega
        conv => whnf
        refine fH_go ?_
        rfl
end Go.Proofs.Ytmjglpdfkkmcoaa
