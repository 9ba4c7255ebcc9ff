/- The document's merging and order: the plain law. No conditions. -/
import Derived.Test.YtmjglpdfkkmcoaaDoorBoXc
import Derived.Test.YtmjglpdfkkmcoaaDoorBoXb
import Derived.Test.YtmjglpdfkkmcoaaDoorBoXd
/-! The document's product of two machines, walked. No conditions. -/
set_option linter.unusedSimpArgs false
set_option linter.unusedVariables false
set_option maxRecDepth 100000
namespace Go.Proofs.YtmjglpdfkkmcoaaDoor
open Go.RowKit

def prow (n : Nat) (r1 r2 : List Int) : List Int := List.zipWith (fun x y => x * (n : Int) + y) r1 r2
def prodT (n : Nat) (A B : List (List Int)) : List (List Int) := A.flatMap fun r1 => B.map (prow n r1)
def prodF (A B : List Bool) : List Bool := A.flatMap fun b1 => B.map (b1 && ·)
theorem prodT_more {n : Nat} {A B : List (List Int)} {i : Nat} {r : List Int} (h : A[i]? = some r) : prodT n (A.take (i + 1)) B = prodT n (A.take i) B ++ B.map (prow n r) := by
  unfold prodT
  rw [List.take_add_one, h, List.flatMap_append]
  simp
theorem prodF_more {A B : List Bool} {i : Nat} {b : Bool} (h : A[i]? = some b) : prodF (A.take (i + 1)) B = prodF (A.take i) B ++ B.map (b && ·) := by
  unfold prodF
  rw [List.take_add_one, h, List.flatMap_append]
  simp
theorem prodT_len {n m : Nat} {B : List (List Int)} (h : B.length = m) : ∀ A : List (List Int), (prodT n A B).length = A.length * m
  | [] => by simp [prodT]
  | r :: A => by
    have := prodT_len (n := n) h A
    unfold prodT at this ⊢
    rw [List.flatMap_cons, List.length_append, this, List.length_map, h, List.length_cons, Nat.add_mul]
    omega
theorem prodF_len {m : Nat} {B : List Bool} (h : B.length = m) : ∀ A : List Bool, (prodF A B).length = A.length * m
  | [] => by simp [prodF]
  | r :: A => by
    have := prodF_len h A
    unfold prodF at this ⊢
    rw [List.flatMap_cons, List.length_append, this, List.length_map, h, List.length_cons, Nat.add_mul]
    omega
set_option maxHeartbeats 16000000 in
theorem product_of {A B : List (List Int)} {FA FB : List Bool} {n1 n2 : Nat} (hA : WF n1 A FA) (hB : WF n2 B FB) (h1 : n1 ≤ 41) (h2 : n2 ≤ 41) :
    Fn1 Tryd.prog 27 [totV A FA, totV B FB] (fun r => r = totV (prodT n2 A B) (prodF FA FB)) := by
  have hAm : (A.map ints).length = A.length := by simp
  have hBm : (B.map ints).length = B.length := by simp
  have hFAm : (FA.map V.bool).length = FA.length := by simp
  have hFBm : (FB.map V.bool).length = FB.length := by simp
  have hAl := hA.lenN
  have hBl := hB.lenN
  have hFAl := hA.lenF
  have hFBl := hB.lenF
  unfold totV
  refine fn1E (T := Tryd.tt) Tryd.func27 rfl tt_all follows_all ?_ ?_ fun C hC hE => ?_
  · kernel_rfl
  · exact Nat.le_of_ble_eq_true (by kernel_rfl)
  conv => whnf
  repeat' (first | (refine brd_t (by first | assumption | omega) ?_; conv => whnf) | (refine brd_f (by first | assumption | omega) ?_; conv => whnf) | (refine ask (by first | assumption | omega) ?_; conv => whnf) | (refine fit64 (by omega) ?_; conv => whnf) | (refine fit (by simp only [kmin, kmax]; omega) ?_; conv => whnf) | (refine br_t (by assumption) ?_; conv => whnf) | (refine br_f (by assumption) ?_; conv => whnf) | (refine get_of (by assumption) ?_; conv => whnf) | (refine get_map (by assumption) ?_; conv => whnf) | (refine draw_lex hE ?_ ?_; decide +kernel; conv => whnf) | (refine draw_any hE [⟨0, [(0, none), (1, none), (2, none), (3, none), (4, none), (5, none), (6, none), (7, none), (8, none), (9, none), (10, none), (11, none), (12, none), (13, none), (14, none), (15, none), (16, none), (17, none), (18, none), (19, none), (20, none), (21, none)], some 22, [], [[]], []⟩] ?_ ?_; decide +kernel; conv => whnf) | (refine draw_any hE [⟨1, [(0, none), (1, none), (2, none), (3, none), (4, none), (5, none), (6, none), (7, none), (8, none), (9, none), (10, none), (11, none), (12, none), (13, none), (14, some 0)], some 15, [], [[]], []⟩, ⟨0, [(16, none)], some 17, [], [[]], []⟩] ?_ ?_; decide +kernel; conv => whnf) | (refine brd (fun h => ?_) (fun h => ?_) <;> conv => whnf) | (refine br (fun h => ?_) (fun h => ?_) <;> conv => whnf) | (refine ret_now hE ?_; conv => whnf) | (intro hlen; conv => whnf) | (refine seg_here ?_; conv => whnf) | (refine both ?_ ?_ <;> conv => whnf))
  refine loopE (fun ((i, R, G) : Nat × List (List Int) × List Bool) => ⟨81, [(2, .rp [.lst (A.map ints), .lst (FA.map V.bool)]), (3, .rp [.lst (B.map ints), .lst (FB.map V.bool)]), (4, .ptr 2 0 0), (5, .int .i64 n2), (6, .ptr 3 0 0), (16, .int .i64 n1), (17, .int .i64 i)],
      [some (.row 1 (R.map ints)), some (.row 1 (G.map V.bool)), some (.row 2 [.agg [.nils, .nils]]), some (.row 2 [.agg [.sl 0 0 R.length, .sl 1 0 G.length]])]⟩)
    (fun (i, R, G) => i ≤ n1 ∧ R = prodT n2 (A.take i) B ∧ G = prodF (FA.take i) FB) (fun (i, _) => n1 - i) (0, [], []) hE ?_ ?_ ⟨Nat.zero_le _, rfl, rfl⟩ ?_
  · kernel_rfl
  · refine up_freeze 0 (z := 2) (els := [totV A FA]) rfl ⟨⟨trivial, trivial, trivial⟩, trivial⟩ (up_freeze 1 (z := 2) (els := [totV B FB]) rfl ⟨⟨trivial, trivial, trivial⟩, trivial⟩ (up_ownF 3 0 1 rfl rfl (up_ownF 3 1 1 rfl rfl (at_keep [2, 3, 4, 5, 6, 16, 17] ?_))))
    conv => whnf
    rw [hAm, hBm, hAl, hBl]
    rfl
  rintro ⟨i, R, G⟩ ⟨hi, hR, hG⟩
  have hRm : (R.map ints).length = R.length := by simp
  have hGm : (G.map V.bool).length = G.length := by simp
  have hRl : R.length = i * n2 := by rw [hR, prodT_len hBl, List.length_take, Nat.min_eq_left (by omega)]
  have hGl : G.length = i * n2 := by rw [hG, prodF_len hFBl, List.length_take, Nat.min_eq_left (by omega)]
  by_cases hlt : i < n1
  · obtain ⟨r1, hr1⟩ : ∃ x, A[i]? = some x := ⟨_, List.getElem?_eq_getElem (by omega)⟩
    obtain ⟨h8, hx1⟩ := hA.rows r1 (List.mem_of_getElem? hr1)
    have hb1 := hA.fin hlt
    generalize fnF FA i = b1 at hb1
    have hRn := prodT_more (n := n2) (B := B) hr1
    have hGn := prodF_more (B := FB) hb1
    rw [← hR] at hRn
    rw [← hG] at hGn
    have hin : (i + 1) * n2 ≤ 41 * 41 := Nat.mul_le_mul (by omega) h2
    rw [Nat.add_mul, Nat.one_mul] at hin
    conv => whnf
    repeat' (first | (refine brd_t (by first | assumption | omega) ?_; conv => whnf) | (refine brd_f (by first | assumption | omega) ?_; conv => whnf) | (refine ask (by first | assumption | omega) ?_; conv => whnf) | (refine fit64 (by omega) ?_; conv => whnf) | (refine fit (by simp only [kmin, kmax]; omega) ?_; conv => whnf) | (refine br_t (by assumption) ?_; conv => whnf) | (refine br_f (by assumption) ?_; conv => whnf) | (refine get_of (by assumption) ?_; conv => whnf) | (refine get_map (by assumption) ?_; conv => whnf) | (refine draw_lex hE ?_ ?_; decide +kernel; conv => whnf) | (refine draw_any hE [⟨0, [(0, none), (1, none), (2, none), (3, none), (4, none), (5, none), (6, none), (7, none), (8, none), (9, none), (10, none), (11, none), (12, none), (13, none), (14, none), (15, none), (16, none), (17, none), (18, none), (19, none), (20, none), (21, none)], some 22, [], [[]], []⟩] ?_ ?_; decide +kernel; conv => whnf) | (refine draw_any hE [⟨1, [(0, none), (1, none), (2, none), (3, none), (4, none), (5, none), (6, none), (7, none), (8, none), (9, none), (10, none), (11, none), (12, none), (13, none), (14, some 0)], some 15, [], [[]], []⟩, ⟨0, [(16, none)], some 17, [], [[]], []⟩] ?_ ?_; decide +kernel; conv => whnf) | (refine brd (fun h => ?_) (fun h => ?_) <;> conv => whnf) | (refine br (fun h => ?_) (fun h => ?_) <;> conv => whnf) | (refine ret_now hE ?_; conv => whnf) | (intro hlen; conv => whnf) | (refine seg_here ?_; conv => whnf) | (refine both ?_ ?_ <;> conv => whnf))
    refine loopE (fun ((k, R, G) : Nat × List (List Int) × List Bool) => ⟨81, [(2, .rp [.lst (A.map ints), .lst (FA.map V.bool)]), (3, .rp [.lst (B.map ints), .lst (FB.map V.bool)]), (4, .ptr 2 0 0), (5, .int .i64 n2), (6, .ptr 3 0 0), (7, .int .i64 i), (16, .int .i64 n1), (17, .int .i64 i), (22, .int .i64 n2), (23, .int .i64 k)],
        [some (.row 1 (R.map ints)), some (.row 1 (G.map V.bool)), some (.row 2 [.agg [.nils, .nils]]), some (.row 2 [.agg [.sl 0 0 R.length, .sl 1 0 G.length]])]⟩)
      (fun (k, R', G') => k ≤ n2 ∧ R' = R ++ (B.take k).map (prow n2 r1) ∧ G' = G ++ (FB.take k).map (b1 && ·)) (fun (k, _) => n2 - k) (0, R, G) hE ?_ ?_ ⟨Nat.zero_le _, by simp, by simp⟩ ?_
    · kernel_rfl
    · refine at_keep [2, 3, 4, 5, 6, 7, 16, 17, 22, 23] ?_
      conv => whnf
      rw [hBm, hBl]
      rfl
    rintro ⟨k, R', G'⟩ ⟨hk, hR', hG'⟩
    have hRl' : R'.length = i * n2 + k := by rw [hR', List.length_append, hRl, List.length_map, List.length_take, Nat.min_eq_left (by omega)]
    have hGl' : G'.length = i * n2 + k := by rw [hG', List.length_append, hGl, List.length_map, List.length_take, Nat.min_eq_left (by omega)]
    clear hR hG hRm hGm hRl hGl
    by_cases hkt : k < n2
    · obtain ⟨r2, hr2⟩ : ∃ x, B[k]? = some x := ⟨_, List.getElem?_eq_getElem (by omega)⟩
      obtain ⟨h8', hx2⟩ := hB.rows r2 (List.mem_of_getElem? hr2)
      have hb2 := hB.fin hkt
      generalize fnF FB k = b2 at hb2
      obtain ⟨a0, a1, a2, a3, a4, a5, a6, a7, rfl⟩ := len8 h8
      obtain ⟨c0, c1, c2, c3, c4, c5, c6, c7, rfl⟩ := len8 h8'
      have g1 : (A.map ints)[Int.toNat (i : Int)]? = some (ints [a0, a1, a2, a3, a4, a5, a6, a7]) := by rw [Int.toNat_natCast, List.getElem?_map, hr1]; rfl
      have g2 : (B.map ints)[Int.toNat (k : Int)]? = some (ints [c0, c1, c2, c3, c4, c5, c6, c7]) := by rw [Int.toNat_natCast, List.getElem?_map, hr2]; rfl
      conv => whnf
      repeat' (first | (refine brd_t (by first | assumption | omega) ?_; conv => whnf) | (refine brd_f (by first | assumption | omega) ?_; conv => whnf) | (refine ask (by first | assumption | omega) ?_; conv => whnf) | (refine fit64 (by omega) ?_; conv => whnf) | (refine fit (by simp only [kmin, kmax]; omega) ?_; conv => whnf) | (refine br_t (by assumption) ?_; conv => whnf) | (refine br_f (by assumption) ?_; conv => whnf) | (refine get_of (by assumption) ?_; conv => whnf) | (refine get_map (by assumption) ?_; conv => whnf) | (refine draw_lex hE ?_ ?_; decide +kernel; conv => whnf) | (refine draw_any hE [⟨0, [(0, none), (1, none), (2, none), (3, none), (4, none), (5, none), (6, none), (7, none), (8, none), (9, none), (10, none), (11, none), (12, none), (13, none), (14, none), (15, none), (16, none), (17, none), (18, none), (19, none), (20, none), (21, none)], some 22, [], [[]], []⟩] ?_ ?_; decide +kernel; conv => whnf) | (refine draw_any hE [⟨1, [(0, none), (1, none), (2, none), (3, none), (4, none), (5, none), (6, none), (7, none), (8, none), (9, none), (10, none), (11, none), (12, none), (13, none), (14, some 0)], some 15, [], [[]], []⟩, ⟨0, [(16, none)], some 17, [], [[]], []⟩] ?_ ?_; decide +kernel; conv => whnf) | (refine brd (fun h => ?_) (fun h => ?_) <;> conv => whnf) | (refine br (fun h => ?_) (fun h => ?_) <;> conv => whnf) | (refine ret_now hE ?_; conv => whnf) | (intro hlen; conv => whnf) | (refine seg_here ?_; conv => whnf) | (refine both ?_ ?_ <;> conv => whnf))
      refine loopE (fun ((c, X) : Nat × List Int) => ⟨81, [(2, .rp [.lst (A.map ints), .lst (FA.map V.bool)]), (3, .rp [.lst (B.map ints), .lst (FB.map V.bool)]), (4, .ptr 2 0 0), (5, .int .i64 n2), (6, .ptr 3 0 0), (7, .int .i64 i), (8, .int .i64 k), (9, .sl 4 0 8), (16, .int .i64 n1), (17, .int .i64 i), (22, .int .i64 n2), (23, .int .i64 k), (28, .int .i64 8), (29, .int .i64 c)],
          [some (.row 1 (R'.map ints)), some (.row 1 (G'.map V.bool)), some (.row 2 [.agg [.nils, .nils]]), some (.row 2 [.agg [.sl 0 0 R'.length, .sl 1 0 G'.length]]), some (.row 1 (X.map (V.int .i64)))]⟩)
        (fun (c, X) => c ≤ 8 ∧ X = (prow n2 [a0, a1, a2, a3, a4, a5, a6, a7] [c0, c1, c2, c3, c4, c5, c6, c7]).take c ++ List.replicate (8 - c) 0) (fun (c, _) => 8 - c) (0, List.replicate 8 0) hE ?_ ?_ ⟨Nat.zero_le _, rfl⟩ ?_
      · kernel_rfl
      · refine at_keep [2, 3, 4, 5, 6, 7, 8, 9, 16, 17, 22, 23, 28, 29] ?_
        conv => whnf
        rfl
      rintro ⟨c, X⟩ ⟨hc, hX⟩
      by_cases hc8 : c < 8
      · have hm : ∀ x ∈ [a0, a1, a2, a3, a4, a5, a6, a7], 0 ≤ x * (n2 : Int) ∧ x * (n2 : Int) ≤ 1681 := fun x hx => by
          obtain ⟨x1, x2⟩ := hx1 x hx
          refine ⟨Int.mul_nonneg x1 (by omega), ?_⟩
          have : x * (n2 : Int) ≤ 41 * 41 := Int.mul_le_mul (by omega) (by omega) (by omega) (by omega)
          omega
        have hy : ∀ x ∈ [c0, c1, c2, c3, c4, c5, c6, c7], 0 ≤ x ∧ x < 41 := fun x hx => by
          obtain ⟨x1, x2⟩ := hx2 x hx
          omega
        simp only [List.mem_cons, List.not_mem_nil, or_false, forall_eq_or_imp, forall_eq] at hm hy
        obtain ⟨m0, m1, m2, m3, m4, m5, m6, m7⟩ := hm
        obtain ⟨y0, y1, y2, y3, y4, y5, y6, y7⟩ := hy
        obtain rfl | rfl | rfl | rfl | rfl | rfl | rfl | rfl : c = 0 ∨ c = 1 ∨ c = 2 ∨ c = 3 ∨ c = 4 ∨ c = 5 ∨ c = 6 ∨ c = 7 := by omega
        · subst hX
          conv => whnf
          repeat' (first | (refine brd_t (by first | assumption | omega) ?_; conv => whnf) | (refine brd_f (by first | assumption | omega) ?_; conv => whnf) | (refine ask (by first | assumption | omega) ?_; conv => whnf) | (refine fit64 (by omega) ?_; conv => whnf) | (refine fit (by simp only [kmin, kmax]; omega) ?_; conv => whnf) | (refine br_t (by assumption) ?_; conv => whnf) | (refine br_f (by assumption) ?_; conv => whnf) | (refine get_of (by assumption) ?_; conv => whnf) | (refine get_map (by assumption) ?_; conv => whnf) | (refine get_of g1 ?_; conv => whnf) | (refine get_of g2 ?_; conv => whnf) | (refine draw_lex hE ?_ ?_; decide +kernel; conv => whnf) | (refine draw_any hE [⟨0, [(0, none), (1, none), (2, none), (3, none), (4, none), (5, none), (6, none), (7, none), (8, none), (9, none), (10, none), (11, none), (12, none), (13, none), (14, none), (15, none), (16, none), (17, none), (18, none), (19, none), (20, none), (21, none)], some 22, [], [[]], []⟩] ?_ ?_; decide +kernel; conv => whnf) | (refine draw_any hE [⟨1, [(0, none), (1, none), (2, none), (3, none), (4, none), (5, none), (6, none), (7, none), (8, none), (9, none), (10, none), (11, none), (12, none), (13, none), (14, some 0)], some 15, [], [[]], []⟩, ⟨0, [(16, none)], some 17, [], [[]], []⟩] ?_ ?_; decide +kernel; conv => whnf) | (refine brd (fun h => ?_) (fun h => ?_) <;> conv => whnf) | (refine br (fun h => ?_) (fun h => ?_) <;> conv => whnf) | (refine ret_now hE ?_; conv => whnf) | (intro hlen; conv => whnf) | (refine seg_here ?_; conv => whnf) | (refine both ?_ ?_ <;> conv => whnf))
          refine next_keep [2, 3, 4, 5, 6, 7, 8, 9, 16, 17, 22, 23, 28, 29] (1, (prow n2 [a0, a1, a2, a3, a4, a5, a6, a7] [c0, c1, c2, c3, c4, c5, c6, c7]).take 1 ++ List.replicate (8 - 1) 0) ⟨by omega, rfl⟩ (by show 8 - 1 < 8 - 0; omega) ?_
          conv => whnf
          rfl
        · subst hX
          conv => whnf
          repeat' (first | (refine brd_t (by first | assumption | omega) ?_; conv => whnf) | (refine brd_f (by first | assumption | omega) ?_; conv => whnf) | (refine ask (by first | assumption | omega) ?_; conv => whnf) | (refine fit64 (by omega) ?_; conv => whnf) | (refine fit (by simp only [kmin, kmax]; omega) ?_; conv => whnf) | (refine br_t (by assumption) ?_; conv => whnf) | (refine br_f (by assumption) ?_; conv => whnf) | (refine get_of (by assumption) ?_; conv => whnf) | (refine get_map (by assumption) ?_; conv => whnf) | (refine get_of g1 ?_; conv => whnf) | (refine get_of g2 ?_; conv => whnf) | (refine draw_lex hE ?_ ?_; decide +kernel; conv => whnf) | (refine draw_any hE [⟨0, [(0, none), (1, none), (2, none), (3, none), (4, none), (5, none), (6, none), (7, none), (8, none), (9, none), (10, none), (11, none), (12, none), (13, none), (14, none), (15, none), (16, none), (17, none), (18, none), (19, none), (20, none), (21, none)], some 22, [], [[]], []⟩] ?_ ?_; decide +kernel; conv => whnf) | (refine draw_any hE [⟨1, [(0, none), (1, none), (2, none), (3, none), (4, none), (5, none), (6, none), (7, none), (8, none), (9, none), (10, none), (11, none), (12, none), (13, none), (14, some 0)], some 15, [], [[]], []⟩, ⟨0, [(16, none)], some 17, [], [[]], []⟩] ?_ ?_; decide +kernel; conv => whnf) | (refine brd (fun h => ?_) (fun h => ?_) <;> conv => whnf) | (refine br (fun h => ?_) (fun h => ?_) <;> conv => whnf) | (refine ret_now hE ?_; conv => whnf) | (intro hlen; conv => whnf) | (refine seg_here ?_; conv => whnf) | (refine both ?_ ?_ <;> conv => whnf))
          refine next_keep [2, 3, 4, 5, 6, 7, 8, 9, 16, 17, 22, 23, 28, 29] (2, (prow n2 [a0, a1, a2, a3, a4, a5, a6, a7] [c0, c1, c2, c3, c4, c5, c6, c7]).take 2 ++ List.replicate (8 - 2) 0) ⟨by omega, rfl⟩ (by show 8 - 2 < 8 - 1; omega) ?_
          conv => whnf
          rfl
        · subst hX
          conv => whnf
          repeat' (first | (refine brd_t (by first | assumption | omega) ?_; conv => whnf) | (refine brd_f (by first | assumption | omega) ?_; conv => whnf) | (refine ask (by first | assumption | omega) ?_; conv => whnf) | (refine fit64 (by omega) ?_; conv => whnf) | (refine fit (by simp only [kmin, kmax]; omega) ?_; conv => whnf) | (refine br_t (by assumption) ?_; conv => whnf) | (refine br_f (by assumption) ?_; conv => whnf) | (refine get_of (by assumption) ?_; conv => whnf) | (refine get_map (by assumption) ?_; conv => whnf) | (refine get_of g1 ?_; conv => whnf) | (refine get_of g2 ?_; conv => whnf) | (refine draw_lex hE ?_ ?_; decide +kernel; conv => whnf) | (refine draw_any hE [⟨0, [(0, none), (1, none), (2, none), (3, none), (4, none), (5, none), (6, none), (7, none), (8, none), (9, none), (10, none), (11, none), (12, none), (13, none), (14, none), (15, none), (16, none), (17, none), (18, none), (19, none), (20, none), (21, none)], some 22, [], [[]], []⟩] ?_ ?_; decide +kernel; conv => whnf) | (refine draw_any hE [⟨1, [(0, none), (1, none), (2, none), (3, none), (4, none), (5, none), (6, none), (7, none), (8, none), (9, none), (10, none), (11, none), (12, none), (13, none), (14, some 0)], some 15, [], [[]], []⟩, ⟨0, [(16, none)], some 17, [], [[]], []⟩] ?_ ?_; decide +kernel; conv => whnf) | (refine brd (fun h => ?_) (fun h => ?_) <;> conv => whnf) | (refine br (fun h => ?_) (fun h => ?_) <;> conv => whnf) | (refine ret_now hE ?_; conv => whnf) | (intro hlen; conv => whnf) | (refine seg_here ?_; conv => whnf) | (refine both ?_ ?_ <;> conv => whnf))
          refine next_keep [2, 3, 4, 5, 6, 7, 8, 9, 16, 17, 22, 23, 28, 29] (3, (prow n2 [a0, a1, a2, a3, a4, a5, a6, a7] [c0, c1, c2, c3, c4, c5, c6, c7]).take 3 ++ List.replicate (8 - 3) 0) ⟨by omega, rfl⟩ (by show 8 - 3 < 8 - 2; omega) ?_
          conv => whnf
          rfl
        · subst hX
          conv => whnf
          repeat' (first | (refine brd_t (by first | assumption | omega) ?_; conv => whnf) | (refine brd_f (by first | assumption | omega) ?_; conv => whnf) | (refine ask (by first | assumption | omega) ?_; conv => whnf) | (refine fit64 (by omega) ?_; conv => whnf) | (refine fit (by simp only [kmin, kmax]; omega) ?_; conv => whnf) | (refine br_t (by assumption) ?_; conv => whnf) | (refine br_f (by assumption) ?_; conv => whnf) | (refine get_of (by assumption) ?_; conv => whnf) | (refine get_map (by assumption) ?_; conv => whnf) | (refine get_of g1 ?_; conv => whnf) | (refine get_of g2 ?_; conv => whnf) | (refine draw_lex hE ?_ ?_; decide +kernel; conv => whnf) | (refine draw_any hE [⟨0, [(0, none), (1, none), (2, none), (3, none), (4, none), (5, none), (6, none), (7, none), (8, none), (9, none), (10, none), (11, none), (12, none), (13, none), (14, none), (15, none), (16, none), (17, none), (18, none), (19, none), (20, none), (21, none)], some 22, [], [[]], []⟩] ?_ ?_; decide +kernel; conv => whnf) | (refine draw_any hE [⟨1, [(0, none), (1, none), (2, none), (3, none), (4, none), (5, none), (6, none), (7, none), (8, none), (9, none), (10, none), (11, none), (12, none), (13, none), (14, some 0)], some 15, [], [[]], []⟩, ⟨0, [(16, none)], some 17, [], [[]], []⟩] ?_ ?_; decide +kernel; conv => whnf) | (refine brd (fun h => ?_) (fun h => ?_) <;> conv => whnf) | (refine br (fun h => ?_) (fun h => ?_) <;> conv => whnf) | (refine ret_now hE ?_; conv => whnf) | (intro hlen; conv => whnf) | (refine seg_here ?_; conv => whnf) | (refine both ?_ ?_ <;> conv => whnf))
          refine next_keep [2, 3, 4, 5, 6, 7, 8, 9, 16, 17, 22, 23, 28, 29] (4, (prow n2 [a0, a1, a2, a3, a4, a5, a6, a7] [c0, c1, c2, c3, c4, c5, c6, c7]).take 4 ++ List.replicate (8 - 4) 0) ⟨by omega, rfl⟩ (by show 8 - 4 < 8 - 3; omega) ?_
          conv => whnf
          rfl
        · subst hX
          conv => whnf
          repeat' (first | (refine brd_t (by first | assumption | omega) ?_; conv => whnf) | (refine brd_f (by first | assumption | omega) ?_; conv => whnf) | (refine ask (by first | assumption | omega) ?_; conv => whnf) | (refine fit64 (by omega) ?_; conv => whnf) | (refine fit (by simp only [kmin, kmax]; omega) ?_; conv => whnf) | (refine br_t (by assumption) ?_; conv => whnf) | (refine br_f (by assumption) ?_; conv => whnf) | (refine get_of (by assumption) ?_; conv => whnf) | (refine get_map (by assumption) ?_; conv => whnf) | (refine get_of g1 ?_; conv => whnf) | (refine get_of g2 ?_; conv => whnf) | (refine draw_lex hE ?_ ?_; decide +kernel; conv => whnf) | (refine draw_any hE [⟨0, [(0, none), (1, none), (2, none), (3, none), (4, none), (5, none), (6, none), (7, none), (8, none), (9, none), (10, none), (11, none), (12, none), (13, none), (14, none), (15, none), (16, none), (17, none), (18, none), (19, none), (20, none), (21, none)], some 22, [], [[]], []⟩] ?_ ?_; decide +kernel; conv => whnf) | (refine draw_any hE [⟨1, [(0, none), (1, none), (2, none), (3, none), (4, none), (5, none), (6, none), (7, none), (8, none), (9, none), (10, none), (11, none), (12, none), (13, none), (14, some 0)], some 15, [], [[]], []⟩, ⟨0, [(16, none)], some 17, [], [[]], []⟩] ?_ ?_; decide +kernel; conv => whnf) | (refine brd (fun h => ?_) (fun h => ?_) <;> conv => whnf) | (refine br (fun h => ?_) (fun h => ?_) <;> conv => whnf) | (refine ret_now hE ?_; conv => whnf) | (intro hlen; conv => whnf) | (refine seg_here ?_; conv => whnf) | (refine both ?_ ?_ <;> conv => whnf))
          refine next_keep [2, 3, 4, 5, 6, 7, 8, 9, 16, 17, 22, 23, 28, 29] (5, (prow n2 [a0, a1, a2, a3, a4, a5, a6, a7] [c0, c1, c2, c3, c4, c5, c6, c7]).take 5 ++ List.replicate (8 - 5) 0) ⟨by omega, rfl⟩ (by show 8 - 5 < 8 - 4; omega) ?_
          conv => whnf
          rfl
        · subst hX
          conv => whnf
          repeat' (first | (refine brd_t (by first | assumption | omega) ?_; conv => whnf) | (refine brd_f (by first | assumption | omega) ?_; conv => whnf) | (refine ask (by first | assumption | omega) ?_; conv => whnf) | (refine fit64 (by omega) ?_; conv => whnf) | (refine fit (by simp only [kmin, kmax]; omega) ?_; conv => whnf) | (refine br_t (by assumption) ?_; conv => whnf) | (refine br_f (by assumption) ?_; conv => whnf) | (refine get_of (by assumption) ?_; conv => whnf) | (refine get_map (by assumption) ?_; conv => whnf) | (refine get_of g1 ?_; conv => whnf) | (refine get_of g2 ?_; conv => whnf) | (refine draw_lex hE ?_ ?_; decide +kernel; conv => whnf) | (refine draw_any hE [⟨0, [(0, none), (1, none), (2, none), (3, none), (4, none), (5, none), (6, none), (7, none), (8, none), (9, none), (10, none), (11, none), (12, none), (13, none), (14, none), (15, none), (16, none), (17, none), (18, none), (19, none), (20, none), (21, none)], some 22, [], [[]], []⟩] ?_ ?_; decide +kernel; conv => whnf) | (refine draw_any hE [⟨1, [(0, none), (1, none), (2, none), (3, none), (4, none), (5, none), (6, none), (7, none), (8, none), (9, none), (10, none), (11, none), (12, none), (13, none), (14, some 0)], some 15, [], [[]], []⟩, ⟨0, [(16, none)], some 17, [], [[]], []⟩] ?_ ?_; decide +kernel; conv => whnf) | (refine brd (fun h => ?_) (fun h => ?_) <;> conv => whnf) | (refine br (fun h => ?_) (fun h => ?_) <;> conv => whnf) | (refine ret_now hE ?_; conv => whnf) | (intro hlen; conv => whnf) | (refine seg_here ?_; conv => whnf) | (refine both ?_ ?_ <;> conv => whnf))
          refine next_keep [2, 3, 4, 5, 6, 7, 8, 9, 16, 17, 22, 23, 28, 29] (6, (prow n2 [a0, a1, a2, a3, a4, a5, a6, a7] [c0, c1, c2, c3, c4, c5, c6, c7]).take 6 ++ List.replicate (8 - 6) 0) ⟨by omega, rfl⟩ (by show 8 - 6 < 8 - 5; omega) ?_
          conv => whnf
          rfl
        · subst hX
          conv => whnf
          repeat' (first | (refine brd_t (by first | assumption | omega) ?_; conv => whnf) | (refine brd_f (by first | assumption | omega) ?_; conv => whnf) | (refine ask (by first | assumption | omega) ?_; conv => whnf) | (refine fit64 (by omega) ?_; conv => whnf) | (refine fit (by simp only [kmin, kmax]; omega) ?_; conv => whnf) | (refine br_t (by assumption) ?_; conv => whnf) | (refine br_f (by assumption) ?_; conv => whnf) | (refine get_of (by assumption) ?_; conv => whnf) | (refine get_map (by assumption) ?_; conv => whnf) | (refine get_of g1 ?_; conv => whnf) | (refine get_of g2 ?_; conv => whnf) | (refine draw_lex hE ?_ ?_; decide +kernel; conv => whnf) | (refine draw_any hE [⟨0, [(0, none), (1, none), (2, none), (3, none), (4, none), (5, none), (6, none), (7, none), (8, none), (9, none), (10, none), (11, none), (12, none), (13, none), (14, none), (15, none), (16, none), (17, none), (18, none), (19, none), (20, none), (21, none)], some 22, [], [[]], []⟩] ?_ ?_; decide +kernel; conv => whnf) | (refine draw_any hE [⟨1, [(0, none), (1, none), (2, none), (3, none), (4, none), (5, none), (6, none), (7, none), (8, none), (9, none), (10, none), (11, none), (12, none), (13, none), (14, some 0)], some 15, [], [[]], []⟩, ⟨0, [(16, none)], some 17, [], [[]], []⟩] ?_ ?_; decide +kernel; conv => whnf) | (refine brd (fun h => ?_) (fun h => ?_) <;> conv => whnf) | (refine br (fun h => ?_) (fun h => ?_) <;> conv => whnf) | (refine ret_now hE ?_; conv => whnf) | (intro hlen; conv => whnf) | (refine seg_here ?_; conv => whnf) | (refine both ?_ ?_ <;> conv => whnf))
          refine next_keep [2, 3, 4, 5, 6, 7, 8, 9, 16, 17, 22, 23, 28, 29] (7, (prow n2 [a0, a1, a2, a3, a4, a5, a6, a7] [c0, c1, c2, c3, c4, c5, c6, c7]).take 7 ++ List.replicate (8 - 7) 0) ⟨by omega, rfl⟩ (by show 8 - 7 < 8 - 6; omega) ?_
          conv => whnf
          rfl
        · subst hX
          conv => whnf
          repeat' (first | (refine brd_t (by first | assumption | omega) ?_; conv => whnf) | (refine brd_f (by first | assumption | omega) ?_; conv => whnf) | (refine ask (by first | assumption | omega) ?_; conv => whnf) | (refine fit64 (by omega) ?_; conv => whnf) | (refine fit (by simp only [kmin, kmax]; omega) ?_; conv => whnf) | (refine br_t (by assumption) ?_; conv => whnf) | (refine br_f (by assumption) ?_; conv => whnf) | (refine get_of (by assumption) ?_; conv => whnf) | (refine get_map (by assumption) ?_; conv => whnf) | (refine get_of g1 ?_; conv => whnf) | (refine get_of g2 ?_; conv => whnf) | (refine draw_lex hE ?_ ?_; decide +kernel; conv => whnf) | (refine draw_any hE [⟨0, [(0, none), (1, none), (2, none), (3, none), (4, none), (5, none), (6, none), (7, none), (8, none), (9, none), (10, none), (11, none), (12, none), (13, none), (14, none), (15, none), (16, none), (17, none), (18, none), (19, none), (20, none), (21, none)], some 22, [], [[]], []⟩] ?_ ?_; decide +kernel; conv => whnf) | (refine draw_any hE [⟨1, [(0, none), (1, none), (2, none), (3, none), (4, none), (5, none), (6, none), (7, none), (8, none), (9, none), (10, none), (11, none), (12, none), (13, none), (14, some 0)], some 15, [], [[]], []⟩, ⟨0, [(16, none)], some 17, [], [[]], []⟩] ?_ ?_; decide +kernel; conv => whnf) | (refine brd (fun h => ?_) (fun h => ?_) <;> conv => whnf) | (refine br (fun h => ?_) (fun h => ?_) <;> conv => whnf) | (refine ret_now hE ?_; conv => whnf) | (intro hlen; conv => whnf) | (refine seg_here ?_; conv => whnf) | (refine both ?_ ?_ <;> conv => whnf))
          refine next_keep [2, 3, 4, 5, 6, 7, 8, 9, 16, 17, 22, 23, 28, 29] (8, (prow n2 [a0, a1, a2, a3, a4, a5, a6, a7] [c0, c1, c2, c3, c4, c5, c6, c7]).take 8 ++ List.replicate (8 - 8) 0) ⟨by omega, rfl⟩ (by show 8 - 8 < 8 - 7; omega) ?_
          conv => whnf
          rfl
      · obtain rfl : c = 8 := by omega
        have hRm : (R'.map ints).length = R'.length := by simp
        have hGm : (G'.map V.bool).length = G'.length := by simp
        have g3 : (FA.map V.bool)[Int.toNat (i : Int)]? = some (.bool b1) := by rw [Int.toNat_natCast, List.getElem?_map, hb1]; rfl
        have g4 : (FB.map V.bool)[Int.toNat (k : Int)]? = some (.bool b2) := by rw [Int.toNat_natCast, List.getElem?_map, hb2]; rfl
        subst hX
        have hR2 : R' ++ [prow n2 [a0, a1, a2, a3, a4, a5, a6, a7] [c0, c1, c2, c3, c4, c5, c6, c7]] = R ++ (B.take (k + 1)).map (prow n2 [a0, a1, a2, a3, a4, a5, a6, a7]) := by
          rw [hR', List.take_add_one, hr2, List.map_append, List.append_assoc]
          rfl
        have hG2 : ∀ b, b = (b1 && b2) → G' ++ [b] = G ++ (FB.take (k + 1)).map (b1 && ·) := fun b hb => by
          rw [hG', List.take_add_one, hb2, List.map_append, List.append_assoc, hb]
          rfl
        have e1 : ∀ R : List (List Int), List.take R.length (List.drop 0 (R.map ints)) = R.map ints := fun R => by rw [List.drop_zero, List.take_of_length_le (by simp)]
        have e2 : ∀ G : List Bool, List.take G.length (List.drop 0 (G.map V.bool)) = G.map V.bool := fun G => by rw [List.drop_zero, List.take_of_length_le (by simp)]
        cases b1 <;> cases b2
        all_goals
          conv => whnf
          repeat' (first | (refine brd_t (by first | assumption | omega) ?_; conv => whnf) | (refine brd_f (by first | assumption | omega) ?_; conv => whnf) | (refine ask (by first | assumption | omega) ?_; conv => whnf) | (refine fit64 (by omega) ?_; conv => whnf) | (refine fit (by simp only [kmin, kmax]; omega) ?_; conv => whnf) | (refine br_t (by assumption) ?_; conv => whnf) | (refine br_f (by assumption) ?_; conv => whnf) | (refine get_of (by assumption) ?_; conv => whnf) | (refine get_map (by assumption) ?_; conv => whnf) | (refine get_of g3 ?_; conv => whnf) | (refine get_of g4 ?_; conv => whnf) | (refine ask (Nat.le_refl 1) ?_; conv => whnf) | (refine ask ⟨?_, ?_, ?_⟩ ?_; (simp [killL_length] <;> omega); (show _ + 1 ≤ 9223372036854775807; omega); (show (_ + 1) * _ ≤ 140737488355328; omega); conv => whnf) | (refine draw_lex hE ?_ ?_; decide +kernel; conv => whnf) | (refine draw_any hE [⟨0, [(0, none), (1, none), (2, none), (3, none), (4, none), (5, none), (6, none), (7, none), (8, none), (9, none), (10, none), (11, none), (12, none), (13, none), (14, none), (15, none), (16, none), (17, none), (18, none), (19, none), (20, none), (21, none)], some 22, [], [[]], []⟩] ?_ ?_; decide +kernel; conv => whnf) | (refine draw_any hE [⟨1, [(0, none), (1, none), (2, none), (3, none), (4, none), (5, none), (6, none), (7, none), (8, none), (9, none), (10, none), (11, none), (12, none), (13, none), (14, some 0)], some 15, [], [[]], []⟩, ⟨0, [(16, none)], some 17, [], [[]], []⟩] ?_ ?_; decide +kernel; conv => whnf) | (refine brd (fun h => ?_) (fun h => ?_) <;> conv => whnf) | (refine br (fun h => ?_) (fun h => ?_) <;> conv => whnf) | (refine ret_now hE ?_; conv => whnf) | (intro hlen; conv => whnf) | (refine seg_here ?_; conv => whnf) | (refine both ?_ ?_ <;> conv => whnf))
          refine up_freeze 4 (z := 1) (els := (prow n2 [a0, a1, a2, a3, a4, a5, a6, a7] [c0, c1, c2, c3, c4, c5, c6, c7]).map (V.int .i64)) rfl ⟨trivial, trivial, trivial, trivial, trivial, trivial, trivial, trivial, trivial⟩ (next_drop [2, 3, 4, 5, 6, 7, 16, 17, 22, 23] [5, 6] (k + 1, R' ++ [prow n2 [a0, a1, a2, a3, a4, a5, a6, a7] [c0, c1, c2, c3, c4, c5, c6, c7]], G' ++ [_]) ⟨by omega, hR2, hG2 _ rfl⟩ ?_ ?_)
          · show n2 - (k + 1) < n2 - k
            omega
          conv => whnf
          simp only [kill_nrL _ (nr_rows _), kill_nrL _ (nr_boo _), killL_join, frzL_join, e1, e2, frz_nrL _ _ (nr_rows _), frz_nrL _ _ (nr_boo _), List.map_append, List.length_append]
          rfl
    · obtain rfl : k = n2 := by omega
      rw [List.take_of_length_le (by omega)] at hR' hG'
      conv => whnf
      repeat' (first | (refine brd_t (by first | assumption | omega) ?_; conv => whnf) | (refine brd_f (by first | assumption | omega) ?_; conv => whnf) | (refine ask (by first | assumption | omega) ?_; conv => whnf) | (refine fit64 (by omega) ?_; conv => whnf) | (refine fit (by simp only [kmin, kmax]; omega) ?_; conv => whnf) | (refine br_t (by assumption) ?_; conv => whnf) | (refine br_f (by assumption) ?_; conv => whnf) | (refine get_of (by assumption) ?_; conv => whnf) | (refine get_map (by assumption) ?_; conv => whnf) | (refine draw_lex hE ?_ ?_; decide +kernel; conv => whnf) | (refine draw_any hE [⟨0, [(0, none), (1, none), (2, none), (3, none), (4, none), (5, none), (6, none), (7, none), (8, none), (9, none), (10, none), (11, none), (12, none), (13, none), (14, none), (15, none), (16, none), (17, none), (18, none), (19, none), (20, none), (21, none)], some 22, [], [[]], []⟩] ?_ ?_; decide +kernel; conv => whnf) | (refine draw_any hE [⟨1, [(0, none), (1, none), (2, none), (3, none), (4, none), (5, none), (6, none), (7, none), (8, none), (9, none), (10, none), (11, none), (12, none), (13, none), (14, some 0)], some 15, [], [[]], []⟩, ⟨0, [(16, none)], some 17, [], [[]], []⟩] ?_ ?_; decide +kernel; conv => whnf) | (refine brd (fun h => ?_) (fun h => ?_) <;> conv => whnf) | (refine br (fun h => ?_) (fun h => ?_) <;> conv => whnf) | (refine ret_now hE ?_; conv => whnf) | (intro hlen; conv => whnf) | (refine seg_here ?_; conv => whnf) | (refine both ?_ ?_ <;> conv => whnf))
      refine next_keep [2, 3, 4, 5, 6, 16, 17] (i + 1, R', G') ⟨by omega, hR'.trans hRn.symm, hG'.trans hGn.symm⟩ (by show n1 - (i + 1) < n1 - i; omega) ?_
      conv => whnf
      rfl
  · obtain rfl : i = n1 := by omega
    rw [List.take_of_length_le (by omega)] at hR hG
    conv => whnf
    repeat' (first | (refine brd_t (by first | assumption | omega) ?_; conv => whnf) | (refine brd_f (by first | assumption | omega) ?_; conv => whnf) | (refine ask (by first | assumption | omega) ?_; conv => whnf) | (refine fit64 (by omega) ?_; conv => whnf) | (refine fit (by simp only [kmin, kmax]; omega) ?_; conv => whnf) | (refine br_t (by assumption) ?_; conv => whnf) | (refine br_f (by assumption) ?_; conv => whnf) | (refine get_of (by assumption) ?_; conv => whnf) | (refine get_map (by assumption) ?_; conv => whnf) | (refine ret_up (up_cell2 2 4 0 1 (za := 1) (zb := 1) (la := R.map ints) (lb := G.map V.bool) rfl rfl rfl rfl (by decide) (by decide) (by decide) (nr_rows _) (nr_boo _) hRm.symm hGm.symm (up_here ?_))) | (refine draw_lex hE ?_ ?_; decide +kernel; conv => whnf) | (refine draw_any hE [⟨0, [(0, none), (1, none), (2, none), (3, none), (4, none), (5, none), (6, none), (7, none), (8, none), (9, none), (10, none), (11, none), (12, none), (13, none), (14, none), (15, none), (16, none), (17, none), (18, none), (19, none), (20, none), (21, none)], some 22, [], [[]], []⟩] ?_ ?_; decide +kernel; conv => whnf) | (refine draw_any hE [⟨1, [(0, none), (1, none), (2, none), (3, none), (4, none), (5, none), (6, none), (7, none), (8, none), (9, none), (10, none), (11, none), (12, none), (13, none), (14, some 0)], some 15, [], [[]], []⟩, ⟨0, [(16, none)], some 17, [], [[]], []⟩] ?_ ?_; decide +kernel; conv => whnf) | (refine brd (fun h => ?_) (fun h => ?_) <;> conv => whnf) | (refine br (fun h => ?_) (fun h => ?_) <;> conv => whnf) | (refine ret_now hE ?_; conv => whnf) | (intro hlen; conv => whnf) | (refine seg_here ?_; conv => whnf) | (refine both ?_ ?_ <;> conv => whnf))
    rw [hR, hG]
    exact ⟨rfl, rfl⟩
end Go.Proofs.YtmjglpdfkkmcoaaDoor

/-! The document's way: states that are met, numbered; live ones; the plain law. No conditions. -/
namespace Go.Proofs.YtmjglpdfkkmcoaaDoor

/-! ### States that are met, numbered from 1 -/
structure NInv (n : Nat) (S Nm : List Int) : Prop where
  len : Nm.length = n
  st : ∀ s ∈ S, 0 ≤ s ∧ s < n
  at' : ∀ (j : Nat) (s : Int), S[j]? = some s → Nm[s.toNat]? = some ((j : Int) + 1)
  num : ∀ (k : Nat) (v : Int), Nm[k]? = some v → v = 0 ∨ ∃ j : Nat, S[j]? = some (k : Int) ∧ v = (j : Int) + 1
section
variable {n : Nat} {S Nm : List Int}
theorem NInv.out (h : NInv n S Nm) {k : Nat} (hk : Nm[k]? = some 0) : (k : Int) ∉ S := fun hm => by
  obtain ⟨j, hj⟩ := List.mem_iff_getElem?.1 hm
  have := h.at' j _ hj
  rw [Int.toNat_natCast, hk] at this
  simp at this
  omega
theorem NInv.uniq (h : NInv n S Nm) {i j : Nat} {s t : Int} (hi : S[i]? = some s) (hj : S[j]? = some t) (e : s.toNat = t.toNat) : i = j := by
  have h1 := h.at' i s hi
  have h2 := h.at' j t hj
  rw [e, h2] at h1
  simp at h1
  omega
theorem NInv.bound (h : NInv n S Nm) : S.length ≤ n := by
  have hnd : (S.map Int.toNat).Nodup := by
    refine List.pairwise_iff_getElem.2 fun i j hi hj hij e => ?_
    simp only [List.length_map] at hi hj
    rw [List.getElem_map, List.getElem_map] at e
    have := h.uniq (List.getElem?_eq_getElem hi) (List.getElem?_eq_getElem hj) e
    omega
  have := nodup_below n (S.map Int.toNat) hnd (fun x hx => by
    obtain ⟨s, hs, rfl⟩ := List.mem_map.1 hx
    have := h.st s hs
    omega)
  simpa using this
theorem NInv.start (h1 : 1 ≤ n) : NInv n [0] ((List.replicate n 0).set 0 1) where
  len := by simp
  st := fun s hs => by simp at hs; subst hs; omega
  at' := fun j s hj => by
    match j, hj with
    | 0, hj =>
      cases hj
      rw [Int.toNat_zero, List.getElem?_set_self (by simp; omega)]
      rfl
    | j + 1, hj => simp at hj
  num := fun k v hv => by
    by_cases h0 : k = 0
    · subst h0
      rw [List.getElem?_set_self (by simp; omega)] at hv
      cases hv
      exact .inr ⟨0, rfl, rfl⟩
    · rw [List.getElem?_set_ne (by omega), List.getElem?_replicate] at hv
      split at hv
      · cases hv; exact .inl rfl
      · cases hv
theorem NInv.grow (h : NInv n S Nm) {k : Nat} (hk : Nm[k]? = some 0) : NInv n (S ++ [(k : Int)]) (Nm.set k ((S.length : Int) + 1)) where
  len := by rw [List.length_set]; exact h.len
  st := fun s hs => by
    rcases List.mem_append.1 hs with hs | hs
    · exact h.st s hs
    · simp at hs
      subst hs
      have := (List.getElem?_eq_some_iff.1 hk).1
      rw [h.len] at this
      omega
  at' := fun j s hj => by
    rcases get_snoc hj with hj | ⟨rfl, rfl⟩
    · have := h.at' j s hj
      rw [List.getElem?_set_ne (fun e => by
        subst e
        rw [hk] at this
        simp at this
        omega)]
      exact this
    · rw [Int.toNat_natCast, List.getElem?_set_self (List.getElem?_eq_some_iff.1 hk).1]
  num := fun i v hv => by
    by_cases hi : k = i
    · subst hi
      rw [List.getElem?_set_self (List.getElem?_eq_some_iff.1 hk).1] at hv
      cases hv
      exact .inr ⟨S.length, by simp, rfl⟩
    · rw [List.getElem?_set_ne hi] at hv
      rcases h.num i v hv with h | ⟨j, h1, h2⟩
      · exact .inl h
      · exact .inr ⟨j, get_was h1, h2⟩
end
/-! ### Met alone -/
structure MInv (T : List (List Int)) (n : Nat) (S Nm W : List Int) : Prop where
  num : NInv n S Nm
  first : S[0]? = some 0
  bound : W.length ≤ 8 * S.length
  step : ∀ (p : Nat) (v : Int), W[p]? = some v → ∃ (s : Int) (j : Nat), S[p / 8]? = some s ∧ v = j ∧ S[j]? = some ((nxT T s.toNat (p % 8) : Nat) : Int)
section
variable {T : List (List Int)} {n : Nat} {S Nm W : List Int}
theorem MInv.start (h1 : 1 ≤ n) : MInv T n [0] ((List.replicate n 0).set 0 1) [] := ⟨.start h1, rfl, by simp, fun p v h => by simp at h⟩
theorem MInv.known (h : MInv T n S Nm W) {s : Int} {i c k : Nat} (hs : S[i]? = some s) (hW : W.length = 8 * i + c) (hc8 : c < 8) (hx : nxT T s.toNat c = k) {v : Int} (hv : Nm[k]? = some v) (h0 : v ≠ 0) : MInv T n S Nm (W ++ [v - 1]) := by
  have e1 : W.length / 8 = i := by omega
  have e2 : W.length % 8 = c := by omega
  rcases h.num.num k v hv with h1 | ⟨j, h1, h2⟩
  · exact absurd h1 h0
  · refine ⟨h.num, h.first, ?_, fun p u hu => ?_⟩
    · have := (List.getElem?_eq_some_iff.1 hs).1
      simp
      omega
    · rcases get_snoc hu with hu | ⟨rfl, rfl⟩
      · exact h.step p u hu
      · exact ⟨s, j, by rw [e1]; exact hs, by omega, by rw [e2, hx]; exact h1⟩
theorem MInv.new (h : MInv T n S Nm W) {s : Int} {i c k : Nat} (hs : S[i]? = some s) (hW : W.length = 8 * i + c) (hc8 : c < 8) (hx : nxT T s.toNat c = k) (hv : Nm[k]? = some 0) : MInv T n (S ++ [(k : Int)]) (Nm.set k ((S.length : Int) + 1)) (W ++ [(S.length : Int)]) := by
  have e1 : W.length / 8 = i := by omega
  have e2 : W.length % 8 = c := by omega
  refine ⟨h.num.grow hv, get_was h.first, ?_, fun p u hu => ?_⟩
  · have := (List.getElem?_eq_some_iff.1 hs).1
    simp
    omega
  · rcases get_snoc hu with hu | ⟨rfl, rfl⟩
    · obtain ⟨a, j, h1, h2, h3⟩ := h.step p u hu
      exact ⟨a, j, get_was h1, h2, get_was h3⟩
    · exact ⟨s, S.length, by rw [e1]; exact get_was hs, rfl, by rw [e2, hx]; simp⟩
theorem flat_get : ∀ {R : List (List Int)} (h : ∀ r ∈ R, r.length = 8) {i c : Nat} (hc : c < 8), R.flatten[8 * i + c]? = (R[i]?.getD [])[c]?
  | [], _, i, c, hc => by simp
  | r :: R, h, 0, c, hc => by
    have h8 := h r (by simp)
    rw [List.flatten_cons, List.getElem?_append_left (by omega)]
    simp
  | r :: R, h, i + 1, c, hc => by
    have h8 := h r (by simp)
    have ih := flat_get (R := R) (fun q hq => h q (by simp [hq])) (i := i) hc
    rw [List.flatten_cons, List.getElem?_append_right (by omega), h8, show 8 * (i + 1) + c - 8 = 8 * i + c by omega, ih]
    simp
theorem flat_len : ∀ {R : List (List Int)} (h : ∀ r ∈ R, r.length = 8), R.flatten.length = 8 * R.length
  | [], _ => by simp
  | r :: R, h => by
    have h8 := h r (by simp)
    have ih := flat_len (R := R) (fun q hq => h q (by simp [hq]))
    rw [List.flatten_cons, List.length_append, h8, ih, List.length_cons]
    omega
/-- All that are met: a machine again, and it means the same. -/
theorem met_done {F : List Bool} {R : List (List Int)} {G : List Bool} (h : MInv T n S Nm R.flatten) (hR : R.length = S.length) (h8 : ∀ r ∈ R, r.length = 8) (hG : G = S.map fun s => fnF F s.toNat) : WF S.length R G ∧ lngT R G 0 = lngT T F 0 := by
  have hget : ∀ (j c : Nat) (s : Int), S[j]? = some s → c < 8 → ∃ (x : Int) (k : Nat), (R[j]?.getD [])[c]? = some x ∧ x = k ∧ S[k]? = some ((nxT T s.toNat c : Nat) : Int) := fun j c s hs hc => by
    have hj := (List.getElem?_eq_some_iff.1 hs).1
    have hlen : 8 * j + c < R.flatten.length := by rw [flat_len h8]; omega
    obtain ⟨a, k, h1, h2, h3⟩ := h.step (8 * j + c) _ (List.getElem?_eq_getElem hlen)
    rw [show (8 * j + c) / 8 = j by omega, hs] at h1
    cases h1
    rw [show (8 * j + c) % 8 = c by omega] at h3
    exact ⟨_, k, by rw [← flat_get h8 hc]; exact List.getElem?_eq_getElem hlen, h2, h3⟩
  have hnx : ∀ (j c : Nat) (s : Int), S[j]? = some s → c < 8 → S[nxT R j c]? = some ((nxT T s.toNat c : Nat) : Int) := fun j c s hs hc => by
    obtain ⟨x, k, h1, rfl, h3⟩ := hget j c s hs hc
    have : nxT R j c = k := by unfold nxT; rw [h1]; simp
    rw [this]
    exact h3
  refine ⟨⟨hR, by rw [hG]; simp, fun r hr => ⟨h8 r hr, fun x hx => ?_⟩⟩, ?_⟩
  · obtain ⟨j, hj⟩ := List.mem_iff_getElem?.1 hr
    obtain ⟨c, hc⟩ := List.mem_iff_getElem?.1 hx
    have hjl := (List.getElem?_eq_some_iff.1 hj).1
    have hcl := (List.getElem?_eq_some_iff.1 hc).1
    rw [h8 r hr] at hcl
    obtain ⟨s, hs⟩ : ∃ s, S[j]? = some s := ⟨_, List.getElem?_eq_getElem (by omega)⟩
    obtain ⟨y, k, h1, h2, h3⟩ := hget j c s hs hcl
    rw [hj] at h1
    simp only [Option.getD_some] at h1
    rw [hc] at h1
    cases h1
    have := (List.getElem?_eq_some_iff.1 h3).1
    omega
  · have key : ∀ (w : List Nat) (j : Nat) (s : Int), S[j]? = some s → wordOk w → fnF G (w.foldl (nxT R) j) = fnF F (w.foldl (nxT T) s.toNat) := by
      intro w
      induction w with
      | nil => intro j s hs _; simp [hG, fnF, hs]
      | cons c w ih =>
        intro j s hs hw
        have hc := hw c (by simp)
        have := ih _ _ (hnx j c s hs hc) (fun d hd => hw d (by simp [hd]))
        rw [Int.toNat_natCast] at this
        exact this
    exact lng_ext fun w hw => key w 0 0 h.first hw
end
end Go.Proofs.YtmjglpdfkkmcoaaDoor

/-! The document's states that are met alone, walked. No conditions. -/
namespace Go.Proofs.YtmjglpdfkkmcoaaDoor
open Go.RowKit

set_option maxHeartbeats 16000000 in
theorem met_of {T : List (List Int)} {F : List Bool} {n : Nat} (hWF : WF n T F) (h1 : 1 ≤ n) (hn2 : n ≤ 1048576) :
    Fn1 Tryd.prog 40 [totV T F] (fun r => ∃ m R G, r = totV R G ∧ WF m R G ∧ 1 ≤ m ∧ m ≤ n ∧ lngT R G 0 = lngT T F 0) := by
  have hTm : (T.map ints).length = T.length := by simp
  have hFm : (F.map V.bool).length = F.length := by simp
  have hTl := hWF.lenN
  have hFl := hWF.lenF
  have e1 : ∀ R : List (List Int), List.take R.length (List.drop 0 (R.map ints)) = R.map ints := fun R => by rw [List.drop_zero, List.take_of_length_le (by simp)]
  have e2 : ∀ G : List Bool, List.take G.length (List.drop 0 (G.map V.bool)) = G.map V.bool := fun G => by rw [List.drop_zero, List.take_of_length_le (by simp)]
  unfold totV
  refine fn1E (T := Tryd.tt) Tryd.func40 rfl tt_all follows_all ?_ ?_ fun C hC hE => ?_
  · kernel_rfl
  · exact Nat.le_of_ble_eq_true (by kernel_rfl)
  conv => whnf
  rw [hTm, hTl]
  have g0 : (List.replicate (Int.toNat (n : Int)) (V.int .i64 0))[0 + Int.toNat 0]? = some (.int .i64 0) := by
    rw [List.getElem?_replicate, if_pos (by simp; omega)]
  repeat' (first | (refine brd_t (by first | assumption | omega) ?_; conv => whnf) | (refine brd_f (by first | assumption | omega) ?_; conv => whnf) | (refine ask (by first | assumption | omega) ?_; conv => whnf) | (refine fit64 (by omega) ?_; conv => whnf) | (refine fit (by simp only [kmin, kmax]; omega) ?_; conv => whnf) | (refine br_t (by assumption) ?_; conv => whnf) | (refine br_f (by assumption) ?_; conv => whnf) | (refine get_of (by assumption) ?_; conv => whnf) | (refine get_map (by assumption) ?_; conv => whnf) | (rw [g0]; conv => whnf) | (refine draw_lex hE ?_ ?_; decide +kernel; conv => whnf) | (refine draw_any hE [⟨0, [(0, none), (1, none), (2, none), (3, none), (4, none), (5, none), (6, none), (7, none), (8, none), (9, none)], none, [], [[]], []⟩] ?_ ?_; decide +kernel; conv => whnf) | (refine draw_any hE [⟨1, [(0, none), (1, none), (2, none), (3, none), (4, none), (5, none), (6, none), (7, none), (8, none), (9, none), (10, some 0)], some 11, [], [[]], []⟩, ⟨0, [(12, none)], some 13, [], [[]], []⟩] ?_ ?_; decide +kernel; conv => whnf) | (refine brd (fun h => ?_) (fun h => ?_) <;> conv => whnf) | (refine br (fun h => ?_) (fun h => ?_) <;> conv => whnf) | (refine ret_now hE ?_; conv => whnf) | (intro hlen; conv => whnf) | (refine seg_here ?_; conv => whnf) | (refine both ?_ ?_ <;> conv => whnf))
  refine loopE (fun ((i, S, Nm, R, G) : Nat × List Int × List Int × List (List Int) × List Bool) => ⟨81, [(1, .rp [.lst (T.map ints), .lst (F.map V.bool)]), (2, .ptr 1 0 0), (3, .sl 2 0 n), (4, .sl 3 0 S.length), (5, .ptr 4 0 0), (6, .int .i64 i)],
      [some (.row 1 (R.map ints)), some (.row 2 [.agg [.nils, .nils]]), some (.row 1 (Nm.map (V.int .i64))), some (.row 1 (S.map (V.int .i64))), some (.row 2 [.agg [.sl 0 0 R.length, .sl 5 0 G.length]]), some (.row 1 (G.map V.bool))]⟩)
    (fun (i, S, Nm, R, G) => i ≤ S.length ∧ MInv T n S Nm R.flatten ∧ R.length = i ∧ (∀ r ∈ R, r.length = 8) ∧ G = (S.take i).map fun s => fnF F s.toNat) (fun (i, _) => n + 1 - i) (0, [0], (List.replicate n 0).set 0 1, [], []) hE ?_ ?_ ⟨Nat.zero_le _, .start h1, rfl, fun r hr => by simp at hr, rfl⟩ ?_
  · kernel_rfl
  · refine up_freeze 0 (z := 2) (els := [totV T F]) rfl ⟨⟨trivial, trivial, trivial⟩, trivial⟩ (up_ownF 4 0 1 rfl rfl (up_ownF 4 1 1 rfl rfl (at_keep [1, 2, 3, 4, 5, 6] ?_)))
    conv => whnf
    have hset : (List.replicate n (V.int .i64 0)).set (0 + Int.toNat 0) (V.int .i64 1) = ((List.replicate n (0 : Int)).set 0 1).map (V.int .i64) := by rw [List.map_set, List.map_replicate]; rfl
    simp only [Int.toNat_natCast, hset, frz_nrL _ _ (nr_i64s _)]
    rfl
  rintro ⟨i, S, Nm, R, G⟩ ⟨hi, hO, hR, hR8, hG⟩
  have hSb := hO.num.bound
  have hSm : (S.map (V.int .i64)).length = S.length := by simp
  have hRm : (R.map ints).length = R.length := by simp
  have hGm : (G.map V.bool).length = G.length := by simp
  have hGl : G.length = i := by rw [hG]; simp; omega
  have hfl : R.flatten.length = 8 * i := by rw [flat_len hR8, hR]
  by_cases hlt : i < S.length
  · obtain ⟨s, hs⟩ : ∃ s, S[i]? = some s := ⟨_, List.getElem?_eq_getElem hlt⟩
    obtain ⟨hs0, hs1⟩ := hO.num.st s (List.mem_of_getElem? hs)
    have hsn : s.toNat < n := by omega
    obtain ⟨rw1, hrow⟩ : ∃ x, T[s.toNat]? = some x := ⟨_, List.getElem?_eq_getElem (by omega)⟩
    obtain ⟨h8, hxs⟩ := hWF.rows rw1 (List.mem_of_getElem? hrow)
    obtain ⟨a0, a1, a2, a3, a4, a5, a6, a7, rfl⟩ := len8 h8
    have g1 : (S.map (V.int .i64))[0 + Int.toNat (i : Int)]? = some (.int .i64 s) := by rw [Nat.zero_add, Int.toNat_natCast, List.getElem?_map, hs]; rfl
    have g2 : (T.map ints)[Int.toNat s]? = some (ints [a0, a1, a2, a3, a4, a5, a6, a7]) := by rw [List.getElem?_map, hrow]; rfl
    conv => whnf
    repeat' (first | (refine brd_t (by first | assumption | omega) ?_; conv => whnf) | (refine brd_f (by first | assumption | omega) ?_; conv => whnf) | (refine ask (by first | assumption | omega) ?_; conv => whnf) | (refine fit64 (by omega) ?_; conv => whnf) | (refine fit (by simp only [kmin, kmax]; omega) ?_; conv => whnf) | (refine br_t (by assumption) ?_; conv => whnf) | (refine br_f (by assumption) ?_; conv => whnf) | (refine get_of (by assumption) ?_; conv => whnf) | (refine get_map (by assumption) ?_; conv => whnf) | (refine get_of g1 ?_; conv => whnf) | (refine get_of g2 ?_; conv => whnf) | (refine draw_lex hE ?_ ?_; decide +kernel; conv => whnf) | (refine draw_any hE [⟨0, [(0, none), (1, none), (2, none), (3, none), (4, none), (5, none), (6, none), (7, none), (8, none), (9, none)], none, [], [[]], []⟩] ?_ ?_; decide +kernel; conv => whnf) | (refine draw_any hE [⟨1, [(0, none), (1, none), (2, none), (3, none), (4, none), (5, none), (6, none), (7, none), (8, none), (9, none), (10, some 0)], some 11, [], [[]], []⟩, ⟨0, [(12, none)], some 13, [], [[]], []⟩] ?_ ?_; decide +kernel; conv => whnf) | (refine brd (fun h => ?_) (fun h => ?_) <;> conv => whnf) | (refine br (fun h => ?_) (fun h => ?_) <;> conv => whnf) | (refine ret_now hE ?_; conv => whnf) | (intro hlen; conv => whnf) | (refine seg_here ?_; conv => whnf) | (refine both ?_ ?_ <;> conv => whnf))
    refine loopE (fun ((c, S, Nm, row) : Nat × List Int × List Int × List Int) => ⟨81, [(1, .rp [.lst (T.map ints), .lst (F.map V.bool)]), (2, .ptr 1 0 0), (3, .sl 2 0 n), (4, .sl 3 0 S.length), (5, .ptr 4 0 0), (6, .int .i64 i), (7, .sl 6 0 row.length), (31, ints [a0, a1, a2, a3, a4, a5, a6, a7]), (32, .int .i64 8), (33, .int .i64 c)],
        [some (.row 1 (R.map ints)), some (.row 2 [.agg [.nils, .nils]]), some (.row 1 (Nm.map (V.int .i64))), some (.row 1 (S.map (V.int .i64))), some (.row 2 [.agg [.sl 0 0 R.length, .sl 5 0 G.length]]), some (.row 1 (G.map V.bool)), some (.row 1 (row.map (V.int .i64)))]⟩)
      (fun (c, S, Nm, row) => c ≤ 8 ∧ row.length = 8 ∧ S[i]? = some s ∧ MInv T n S Nm (R.flatten ++ row.take c) ∧ G = (S.take i).map fun s => fnF F s.toNat) (fun (c, _) => 8 - c) (0, S, Nm, List.replicate 8 0) hE ?_ ?_ ⟨Nat.zero_le _, by simp, hs, by rw [List.take_zero, List.append_nil]; exact hO, hG⟩ ?_
    · kernel_rfl
    · refine at_keep [1, 2, 3, 4, 5, 6, 7, 31, 32, 33] ?_
      conv => whnf
      rfl
    clear hO hs hG hSm hSb hlt hi g1
    rintro ⟨c, S, Nm, row⟩ ⟨hc, hrl, hs, hO, hG⟩
    have hSb := hO.num.bound
    have hSm : (S.map (V.int .i64)).length = S.length := by simp
    have hNl := hO.num.len
    have hNm : (Nm.map (V.int .i64)).length = Nm.length := by simp
    have hlt : i < S.length := (List.getElem?_eq_some_iff.1 hs).1
    have hrm : (row.map (V.int .i64)).length = row.length := by simp
    by_cases hc8 : c < 8
    · obtain ⟨row', x, hrow', _, hxc, hx0, hxn, ex⟩ := hWF.get hsn hc8
      rw [hrow] at hrow'
      cases hrow'
      have hxt : x.toNat < n := by omega
      have hWl : (R.flatten ++ row.take c).length = 8 * i + c := by simp [hfl, hrl]; omega
      have hsn' : ∀ v : Int, R.flatten ++ (row.set c v).take (c + 1) = R.flatten ++ row.take c ++ [v] := fun v => by
        rw [List.append_assoc, List.take_add_one, List.take_set_of_le (Nat.le_refl c), List.getElem?_set_self (by omega)]
        rfl
      have hls : ∀ v : Int, (row.set c v).length = row.length := fun v => List.length_set
      have hnls : ∀ v : Int, (Nm.set x.toNat v).length = Nm.length := fun v => List.length_set
      obtain ⟨y, hy⟩ : ∃ y, row[c]? = some y := ⟨_, List.getElem?_eq_getElem (by omega)⟩
      obtain ⟨v, hv⟩ : ∃ v, Nm[x.toNat]? = some v := ⟨_, List.getElem?_eq_getElem (by omega)⟩
      have g3 : (Nm.map (V.int .i64))[0 + Int.toNat x]? = some (.int .i64 v) := by rw [Nat.zero_add, List.getElem?_map, hv]; rfl
      have g4 : (row.map (V.int .i64))[0 + Int.toNat (c : Int)]? = some (.int .i64 y) := by rw [Nat.zero_add, Int.toNat_natCast, List.getElem?_map, hy]; rfl
      by_cases hv0 : v = 0
      · subst hv0
        have hput := hO.new hs hWl hc8 ex hv
        have e3 : ((S.length : Int)) + 1 = ((S ++ [x]).length : Int) := by simp
        have e4 : (S.length : Int) = ((S ++ [x]).length : Int) - 1 := by simp
        have e5 : ((x.toNat : Nat) : Int) = x := by omega
        rw [e5, e3, e4, ← hsn'] at hput
        have hG' : G = ((S ++ [x]).take i).map fun s => fnF F s.toNat := by rw [List.take_append_of_le_length (by omega)]; exact hG
        have hs' : (S ++ [x])[i]? = some s := get_was hs
        have g7 : ∀ u : V, ((killL 3 (Nm.map (V.int .i64))).set (0 + Int.toNat x) u)[0 + Int.toNat x]? = some u := fun u => by rw [List.getElem?_set_self (by rw [killL_length, hNm, Nat.zero_add]; omega)]
        have g8 : (killL 3 (Nm.map (V.int .i64)))[0 + Int.toNat x]? = some (.int .i64 0) := by rw [kill_nrL _ (nr_i64s _)]; exact g3
        have g9 : (killL 3 (row.map (V.int .i64)))[0 + Int.toNat (c : Int)]? = some (.int .i64 y) := by rw [kill_nrL _ (nr_i64s _)]; exact g4
        clear ex hO hWl hsn'
        obtain rfl | rfl | rfl | rfl | rfl | rfl | rfl | rfl : c = 0 ∨ c = 1 ∨ c = 2 ∨ c = 3 ∨ c = 4 ∨ c = 5 ∨ c = 6 ∨ c = 7 := by omega
        all_goals simp only [List.getElem?_cons_zero, List.getElem?_cons_succ, Option.some.injEq] at hxc
        all_goals subst hxc
        all_goals
          conv => whnf
          repeat' (first | (refine brd_t (by first | assumption | omega) ?_; conv => whnf) | (refine brd_f (by first | assumption | omega) ?_; conv => whnf) | (refine ask (by first | assumption | omega) ?_; conv => whnf) | (refine fit64 (by omega) ?_; conv => whnf) | (refine fit (by simp only [kmin, kmax]; omega) ?_; conv => whnf) | (refine br_t (by assumption) ?_; conv => whnf) | (refine br_f (by assumption) ?_; conv => whnf) | (refine get_of (by assumption) ?_; conv => whnf) | (refine get_map (by assumption) ?_; conv => whnf) | (refine get_of g3 ?_; conv => whnf) | (refine get_of g8 ?_; conv => whnf) | (refine get_of (g7 _) ?_; conv => whnf) | (refine get_of g9 ?_; conv => whnf) | (refine ask (Nat.le_refl 1) ?_; conv => whnf) | (refine ask ⟨?_, ?_, ?_⟩ ?_; (simp [killL_length] <;> omega); (show _ + 1 ≤ 9223372036854775807; omega); (show (_ + 1) * _ ≤ 140737488355328; omega); conv => whnf) | (refine fit64 ⟨by simp; omega, by simp; omega⟩ ?_; conv => whnf) | (refine draw_lex hE ?_ ?_; decide +kernel; conv => whnf) | (refine draw_any hE [⟨0, [(0, none), (1, none), (2, none), (3, none), (4, none), (5, none), (6, none), (7, none), (8, none), (9, none)], none, [], [[]], []⟩] ?_ ?_; decide +kernel; conv => whnf) | (refine draw_any hE [⟨1, [(0, none), (1, none), (2, none), (3, none), (4, none), (5, none), (6, none), (7, none), (8, none), (9, none), (10, some 0)], some 11, [], [[]], []⟩, ⟨0, [(12, none)], some 13, [], [[]], []⟩] ?_ ?_; decide +kernel; conv => whnf) | (refine brd (fun h => ?_) (fun h => ?_) <;> conv => whnf) | (refine br (fun h => ?_) (fun h => ?_) <;> conv => whnf) | (refine ret_now hE ?_; conv => whnf) | (intro hlen; conv => whnf) | (refine seg_here ?_; conv => whnf) | (refine both ?_ ?_ <;> conv => whnf))
          refine next_drop [1, 2, 3, 4, 5, 6, 7, 31, 32, 33] [7] (_ + 1, S ++ [_], Nm.set _ ((S ++ [_]).length : Int), row.set _ (((S ++ [_]).length : Int) - 1)) ⟨?_, ?_, hs', hput, hG'⟩ ?_ ?_
          · omega
          · rw [List.length_set]; exact hrl
          · show 8 - _ < 8 - _; omega
          conv => whnf
          rw [int_row, int_len]
          simp only [Nat.zero_add, Int.toNat_natCast, ← List.map_set, kill_nrL _ (nr_i64s _), kill_nrL _ (nr_rows _), kill_nrL _ (nr_boo _), List.set_set]
          rw [← hls (((S ++ [_]).length : Int) - 1)]
          rfl
      · have hput := hO.known hs hWl hc8 ex hv hv0
        rw [← hsn'] at hput
        have hvb : 0 ≤ v ∧ v ≤ 1048577 := by
          rcases hO.num.num _ _ hv with h | ⟨j, h1, h2⟩
          · exact absurd h hv0
          · have := (List.getElem?_eq_some_iff.1 h1).1
            omega
        clear ex hO hWl hsn'
        obtain rfl | rfl | rfl | rfl | rfl | rfl | rfl | rfl : c = 0 ∨ c = 1 ∨ c = 2 ∨ c = 3 ∨ c = 4 ∨ c = 5 ∨ c = 6 ∨ c = 7 := by omega
        all_goals simp only [List.getElem?_cons_zero, List.getElem?_cons_succ, Option.some.injEq] at hxc
        all_goals subst hxc
        all_goals
          conv => whnf
          repeat' (first | (refine brd_t (by first | assumption | omega) ?_; conv => whnf) | (refine brd_f (by first | assumption | omega) ?_; conv => whnf) | (refine ask (by first | assumption | omega) ?_; conv => whnf) | (refine fit64 (by omega) ?_; conv => whnf) | (refine fit (by simp only [kmin, kmax]; omega) ?_; conv => whnf) | (refine br_t (by assumption) ?_; conv => whnf) | (refine br_f (by assumption) ?_; conv => whnf) | (refine get_of (by assumption) ?_; conv => whnf) | (refine get_map (by assumption) ?_; conv => whnf) | (refine get_of g3 ?_; conv => whnf) | (refine get_of g4 ?_; conv => whnf) | (refine draw_lex hE ?_ ?_; decide +kernel; conv => whnf) | (refine draw_any hE [⟨0, [(0, none), (1, none), (2, none), (3, none), (4, none), (5, none), (6, none), (7, none), (8, none), (9, none)], none, [], [[]], []⟩] ?_ ?_; decide +kernel; conv => whnf) | (refine draw_any hE [⟨1, [(0, none), (1, none), (2, none), (3, none), (4, none), (5, none), (6, none), (7, none), (8, none), (9, none), (10, some 0)], some 11, [], [[]], []⟩, ⟨0, [(12, none)], some 13, [], [[]], []⟩] ?_ ?_; decide +kernel; conv => whnf) | (refine brd (fun h => ?_) (fun h => ?_) <;> conv => whnf) | (refine br (fun h => ?_) (fun h => ?_) <;> conv => whnf) | (refine ret_now hE ?_; conv => whnf) | (intro hlen; conv => whnf) | (refine seg_here ?_; conv => whnf) | (refine both ?_ ?_ <;> conv => whnf))
          refine next_keep [1, 2, 3, 4, 5, 6, 7, 31, 32, 33] (_ + 1, S, Nm, row.set _ (v - 1)) ⟨?_, ?_, hs, hput, hG⟩ ?_ ?_
          · omega
          · rw [List.length_set]; exact hrl
          · show 8 - _ < 8 - _; omega
          conv => whnf
          rw [Nat.zero_add, Int.toNat_natCast, ← List.map_set]
          rw [← hls (v - 1)]
          rfl
    · obtain rfl : c = 8 := by omega
      rw [List.take_of_length_le (by omega)] at hO
      have g1 : (S.map (V.int .i64))[0 + Int.toNat (i : Int)]? = some (.int .i64 s) := by rw [Nat.zero_add, Int.toNat_natCast, List.getElem?_map, hs]; rfl
      have g1' : (killL 0 (S.map (V.int .i64)))[0 + Int.toNat (i : Int)]? = some (.int .i64 s) := by rw [kill_nrL _ (nr_i64s _)]; exact g1
      have g6 : (F.map V.bool)[Int.toNat s]? = some (.bool (fnF F s.toNat)) := by rw [List.getElem?_map, hWF.fin hsn]; rfl
      have hO' : MInv T n S Nm (R ++ [row]).flatten := by rw [List.flatten_append, List.flatten_cons, List.flatten_nil, List.append_nil]; exact hO
      have hR8' : ∀ r ∈ R ++ [row], r.length = 8 := fun r hr => by
        rcases List.mem_append.1 hr with hr | hr
        · exact hR8 r hr
        · simp at hr; subst hr; exact hrl
      have hG' : G ++ [fnF F s.toNat] = (S.take (i + 1)).map fun s => fnF F s.toNat := by
        rw [hG, List.take_add_one, hs, List.map_append]
        rfl
      generalize fnF F s.toNat = b at g6 hG'
      obtain ⟨r0, r1, r2, r3, r4, r5, r6, r7, rfl⟩ := len8 hrl
      cases b
      all_goals
        conv => whnf
        repeat' (first | (refine brd_t (by first | assumption | omega) ?_; conv => whnf) | (refine brd_f (by first | assumption | omega) ?_; conv => whnf) | (refine ask (by first | assumption | omega) ?_; conv => whnf) | (refine fit64 (by omega) ?_; conv => whnf) | (refine fit (by simp only [kmin, kmax]; omega) ?_; conv => whnf) | (refine br_t (by assumption) ?_; conv => whnf) | (refine br_f (by assumption) ?_; conv => whnf) | (refine get_of (by assumption) ?_; conv => whnf) | (refine get_map (by assumption) ?_; conv => whnf) | (refine get_of g1 ?_; conv => whnf) | (refine get_of g1' ?_; conv => whnf) | (refine get_of g6 ?_; conv => whnf) | (refine ask (Nat.le_refl 1) ?_; conv => whnf) | (refine ask ⟨?_, ?_, ?_⟩ ?_; (simp [killL_length] <;> omega); (show _ + 1 ≤ 9223372036854775807; omega); (show (_ + 1) * _ ≤ 140737488355328; omega); conv => whnf) | (refine draw_lex hE ?_ ?_; decide +kernel; conv => whnf) | (refine draw_any hE [⟨0, [(0, none), (1, none), (2, none), (3, none), (4, none), (5, none), (6, none), (7, none), (8, none), (9, none)], none, [], [[]], []⟩] ?_ ?_; decide +kernel; conv => whnf) | (refine draw_any hE [⟨1, [(0, none), (1, none), (2, none), (3, none), (4, none), (5, none), (6, none), (7, none), (8, none), (9, none), (10, some 0)], some 11, [], [[]], []⟩, ⟨0, [(12, none)], some 13, [], [[]], []⟩] ?_ ?_; decide +kernel; conv => whnf) | (refine brd (fun h => ?_) (fun h => ?_) <;> conv => whnf) | (refine br (fun h => ?_) (fun h => ?_) <;> conv => whnf) | (refine ret_now hE ?_; conv => whnf) | (intro hlen; conv => whnf) | (refine seg_here ?_; conv => whnf) | (refine both ?_ ?_ <;> conv => whnf))
        refine up_freeze 6 (z := 1) (els := [r0, r1, r2, r3, r4, r5, r6, r7].map (V.int .i64)) rfl ⟨trivial, trivial, trivial, trivial, trivial, trivial, trivial, trivial, trivial⟩ (next_drop [1, 2, 3, 4, 5, 6] [7, 8] (i + 1, S, Nm, R ++ [[r0, r1, r2, r3, r4, r5, r6, r7]], G ++ [_]) ⟨by omega, hO', by rw [List.length_append, hR]; rfl, hR8', hG'⟩ ?_ ?_)
        · show n + 1 - (i + 1) < n + 1 - i
          omega
        conv => whnf
        simp only [kill_nrL _ (nr_rows _), kill_nrL _ (nr_boo _), kill_nrL _ (nr_i64s _), killL_join, frzL_join, e1, e2, frz_nrL _ _ (nr_rows _), frz_nrL _ _ (nr_boo _), frz_nrL _ _ (nr_i64s _), List.map_append, List.length_append]
        rfl
  · obtain rfl : i = S.length := by omega
    obtain ⟨hw, hl⟩ := met_done (F := F) (G := G) hO hR hR8 (by rw [hG, List.take_length])
    have hpos : 1 ≤ S.length := by
      have := (List.getElem?_eq_some_iff.1 hO.first).1
      omega
    conv => whnf
    repeat' (first | (refine brd_t (by first | assumption | omega) ?_; conv => whnf) | (refine brd_f (by first | assumption | omega) ?_; conv => whnf) | (refine ask (by first | assumption | omega) ?_; conv => whnf) | (refine fit64 (by omega) ?_; conv => whnf) | (refine fit (by simp only [kmin, kmax]; omega) ?_; conv => whnf) | (refine br_t (by assumption) ?_; conv => whnf) | (refine br_f (by assumption) ?_; conv => whnf) | (refine get_of (by assumption) ?_; conv => whnf) | (refine get_map (by assumption) ?_; conv => whnf) | (refine ret_up (up_cell2 1 2 0 5 (za := 1) (zb := 1) (la := R.map ints) (lb := G.map V.bool) rfl rfl rfl rfl (by decide) (by decide) (by decide) (nr_rows _) (nr_boo _) hRm.symm hGm.symm (up_here ?_))) | (refine draw_lex hE ?_ ?_; decide +kernel; conv => whnf) | (refine draw_any hE [⟨0, [(0, none), (1, none), (2, none), (3, none), (4, none), (5, none), (6, none), (7, none), (8, none), (9, none)], none, [], [[]], []⟩] ?_ ?_; decide +kernel; conv => whnf) | (refine draw_any hE [⟨1, [(0, none), (1, none), (2, none), (3, none), (4, none), (5, none), (6, none), (7, none), (8, none), (9, none), (10, some 0)], some 11, [], [[]], []⟩, ⟨0, [(12, none)], some 13, [], [[]], []⟩] ?_ ?_; decide +kernel; conv => whnf) | (refine brd (fun h => ?_) (fun h => ?_) <;> conv => whnf) | (refine br (fun h => ?_) (fun h => ?_) <;> conv => whnf) | (refine ret_now hE ?_; conv => whnf) | (intro hlen; conv => whnf) | (refine seg_here ?_; conv => whnf) | (refine both ?_ ?_ <;> conv => whnf))
    exact ⟨rfl, S.length, R, G, rfl, hw, hpos, hSb, hl⟩
end Go.Proofs.YtmjglpdfkkmcoaaDoor

/-! The document's merging and order: the plain law. No conditions. -/
namespace Go.Proofs.YtmjglpdfkkmcoaaDoor

/-! ### The first of those that mean the same -/
def fstD (D : List (List Bool)) (i : Nat) : Nat := (D[i]?.getD []).findIdx (fun b => !b)
section
variable {T : List (List Int)} {F : List Bool} {n : Nat} {D : List (List Bool)}
theorem tab_lng (hw : WF n T F) (h : Tab (nxT T) (fnF F) n (at2 D)) {i k : Nat} (hi : i < n) (hk : k < n) : at2 D i k = false ↔ lngT T F i = lngT T F k := by
  rw [tab_iff h (fun i c hi hc => hw.nx hi hc) hi hk]
  exact ⟨fun e => lng_ext e, fun e w hw => lng_word e w hw⟩
theorem fst_is (hs : Sq n D) {i k : Nat} (hi : i < n) (hk : k < n) (hf : at2 D i k = false) (ht : ∀ j, j < k → at2 D i j = true) : fstD D i = k := by
  obtain ⟨r, hr, hl, _⟩ := hs.get2 hi hk
  have hb : ∀ j, j < n → r[j]? = some (at2 D i j) := fun j hj => by
    obtain ⟨r', hr', _, h⟩ := hs.get2 hi hj
    rw [hr] at hr'
    cases hr'
    exact h
  unfold fstD
  rw [hr]
  refine (List.findIdx_eq (show k < r.length by omega)).2 ⟨?_, fun j hj => ?_⟩
  · have := hb k hk
    rw [List.getElem?_eq_getElem (by omega)] at this
    rw [Option.some.inj this, hf]
    rfl
  · have := hb j (by omega)
    rw [List.getElem?_eq_getElem (by omega)] at this
    rw [Option.some.inj this, ht j hj]
    rfl
theorem fst_ex (hw : WF n T F) (h : Tab (nxT T) (fnF F) n (at2 D)) (hs : Sq n D) {i : Nat} (hi : i < n) : fstD D i ≤ i ∧ at2 D i (fstD D i) = false ∧ ∀ j, j < fstD D i → at2 D i j = true := by
  have hii : at2 D i i = false := (tab_lng hw h hi hi).2 rfl
  have key : ∀ m : Nat, m ≤ i → at2 D i m = false → ∃ k, k ≤ m ∧ at2 D i k = false ∧ ∀ j, j < k → at2 D i j = true := by
    intro m
    induction m using Nat.strongRecOn with
    | _ m ih =>
      intro hm hf
      by_cases hx : ∃ j, j < m ∧ at2 D i j = false
      · obtain ⟨j, hj, hjf⟩ := hx
        obtain ⟨k, a, b, c⟩ := ih j hj (by omega) hjf
        exact ⟨k, by omega, b, c⟩
      · refine ⟨m, Nat.le_refl m, hf, fun j hj => ?_⟩
        cases hb : at2 D i j with
        | true => rfl
        | false => exact absurd ⟨j, hj, hb⟩ hx
  obtain ⟨k, a, b, c⟩ := key i (Nat.le_refl i) hii
  have e := fst_is hs hi (by omega) b c
  rw [e]
  exact ⟨a, b, c⟩
theorem fst_lng (hw : WF n T F) (h : Tab (nxT T) (fnF F) n (at2 D)) (hs : Sq n D) {i : Nat} (hi : i < n) : fstD D i < n ∧ lngT T F (fstD D i) = lngT T F i := by
  obtain ⟨a, b, _⟩ := fst_ex hw h hs hi
  have hk : fstD D i < n := by omega
  exact ⟨hk, ((tab_lng hw h hi hk).1 b).symm⟩
theorem fst_same (hw : WF n T F) (h : Tab (nxT T) (fnF F) n (at2 D)) (hs : Sq n D) {i j : Nat} (hi : i < n) (hj : j < n) (e : lngT T F i = lngT T F j) : fstD D i = fstD D j := by
  obtain ⟨a, b, c⟩ := fst_ex hw h hs hi
  obtain ⟨a', b', c'⟩ := fst_ex hw h hs hj
  have hk : fstD D i < n := by omega
  have hk' : fstD D j < n := by omega
  have h1 : at2 D j (fstD D i) = false := (tab_lng hw h hj hk).2 (e ▸ (tab_lng hw h hi hk).1 b)
  have h2 : at2 D i (fstD D j) = false := (tab_lng hw h hi hk').2 (e ▸ (tab_lng hw h hj hk').1 b')
  rcases Nat.lt_trichotomy (fstD D i) (fstD D j) with hlt | he | hlt
  · rw [c' _ hlt] at h1; cases h1
  · exact he
  · rw [c _ hlt] at h2; cases h2
end
/-! ### Live, by rounds -/
structure Lso (N : List (List Int)) (F : List Bool) (n : Nat) (D : List Bool) : Prop where
  len : D.length = n
  sound : ∀ i, i < n → bt D i = true → aliveW N F i
def Compl (N : List (List Int)) (F : List Bool) (n : Nat) (D : List Bool) : Prop := ∀ i, i < n → aliveW N F i → bt D i = true
/-- In a round, at state i: behind its end and its first letters, c in all. -/
structure LDoc (N : List (List Int)) (F : List Bool) (n : Nat) (D0 D : List Bool) (i c : Nat) : Prop where
  lso : Lso N F n D
  mono : ∀ j, bt D0 j = true → bt D j = true
  so : (D = D0 ∧ (∀ j, j < n → j < i → (fnF F j = true → bt D j = true) ∧ ∀ e, e < 8 → bt D (nxT N j e) = true → bt D j = true) ∧ (1 ≤ c → fnF F i = true → bt D i = true) ∧ ∀ e, e < 8 → e + 1 < c → bt D (nxT N i e) = true → bt D i = true) ∨ cn1 D < cn1 D0
section
variable {N : List (List Int)} {F : List Bool} {n : Nat} {D0 D : List Bool} {i c : Nat}
theorem LDoc.start (h : Lso N F n D) : LDoc N F n D D 0 0 := ⟨h, fun _ h => h, .inl ⟨rfl, fun j _ h => by omega, fun h => by omega, fun e _ h => by omega⟩⟩
theorem LDoc.row (h : LDoc N F n D0 D i 9) : LDoc N F n D0 D (i + 1) 0 := ⟨h.lso, h.mono, h.so.imp (fun ⟨h1, h2, h3, h4⟩ => ⟨h1, fun j hj hji => by
  by_cases e : j = i
  · subst e
    exact ⟨h3 (by omega), fun e he => h4 e he (by omega)⟩
  · exact h2 j hj (by omega), fun h => by omega, fun e _ h => by omega⟩) id⟩
theorem set_bt (hl : D.length = n) (hi : i < n) : D.set i (bt D i) = D := by
  apply List.ext_getElem?
  intro k
  by_cases hk : i = k
  · subst hk
    rw [List.getElem?_set_self (by omega), bt_get hl hi]
  · rw [List.getElem?_set_ne hk]
/-- One more look: b says whether it makes the state live. -/
theorem LDoc.put (h : LDoc N F n D0 D i c) (hi : i < n) {b : Bool} (hal : b = true → aliveW N F i) (hc : (c = 0 → b = fnF F i) ∧ ∀ e, e < 8 → c = e + 1 → b = bt D (nxT N i e)) : LDoc N F n D0 (D.set i (bt D i || b)) i (c + 1) := by
  have hl := h.lso.len
  by_cases hb : (bt D i || b) = bt D i
  · rw [hb, set_bt hl hi]
    refine ⟨h.lso, h.mono, h.so.imp (fun ⟨h1, h2, h3, h4⟩ => ⟨h1, h2, fun _ hf => ?_, fun e he hec hbe => ?_⟩) id⟩
    · by_cases h0 : c = 0
      · have := hc.1 h0
        rw [hf] at this
        rw [this] at hb
        rw [← hb]
        simp
      · exact h3 (by omega) hf
    · by_cases h0 : c = e + 1
      · have := hc.2 e he h0
        rw [hbe] at this
        rw [this] at hb
        rw [← hb]
        simp
      · exact h4 e he (by omega) hbe
  · have hf : bt D i = false := by
      cases hx : bt D i with
      | false => rfl
      | true => rw [hx] at hb; simp at hb
    have hbt : b = true := by
      cases b with
      | true => rfl
      | false => simp at hb
    rw [hf, hbt, Bool.false_or]
    refine ⟨⟨by rw [List.length_set]; exact hl, fun j hj hjb => ?_⟩, fun j hj => ?_, .inr ?_⟩
    · rw [bt_set hl hi] at hjb
      split at hjb
      · rename_i e
        rw [e]
        exact hal hbt
      · exact h.lso.sound j hj hjb
    · rw [bt_set hl hi]
      split
      · rfl
      · exact h.mono j hj
    · have hg := bt_get hl hi
      rw [hf] at hg
      have := count_set D i hg
      unfold cn1
      rcases h.so with ⟨e, _⟩ | h2
      · rw [← e]
        omega
      · unfold cn1 at h2
        omega
theorem compl_of (hnx : ∀ i c, i < n → c < 8 → nxT N i c < n) (hf : ∀ j, j < n → (fnF F j = true → bt D j = true) ∧ ∀ e, e < 8 → bt D (nxT N j e) = true → bt D j = true) : Compl N F n D := by
  intro i hi ha
  obtain ⟨w, hw, hfw⟩ := ha
  induction w generalizing i with
  | nil => exact (hf i hi).1 hfw
  | cons c w ih =>
    have hc := hw c (by simp)
    exact (hf i hi).2 c hc (ih (nxT N i c) (hnx i c hi hc) (fun d hd => hw d (by simp [hd])) hfw)
/-- After a round: all are found, or one more is. -/
theorem LDoc.done (h : LDoc N F n D0 D n 0) (hnx : ∀ i c, i < n → c < 8 → nxT N i c < n) {r : Nat} (h0 : Compl N F n D0 ∨ cn1 D0 + r ≤ n) : Lso N F n D ∧ (Compl N F n D ∨ cn1 D + (r + 1) ≤ n) := by
  refine ⟨h.lso, ?_⟩
  rcases h0 with h0 | h0
  · exact .inl fun i hi ha => h.mono i (h0 i hi ha)
  · rcases h.so with ⟨e, h2, _, _⟩ | h2
    · exact .inl (compl_of hnx fun j hj => h2 j hj hj)
    · exact .inr (by omega)
theorem live_rounds (h : Lso N F n D) (h0 : Compl N F n D ∨ cn1 D + n ≤ n) : ∀ i, i < n → (bt D i = true ↔ aliveW N F i) := fun i hi => by
  refine ⟨h.sound i hi, fun ha => ?_⟩
  rcases h0 with h0 | h0
  · exact h0 i hi ha
  · have hz : cn1 D = 0 := by omega
    unfold cn1 at hz
    rw [List.countP_eq_zero] at hz
    have := hz _ (List.mem_of_getElem? (bt_get h.len hi))
    simpa using this
end
/-! ### The order -/
structure QInv (T : List (List Int)) (F : List Bool) (n : Nat) (D : List (List Bool)) (S Nm W : List Int) : Prop where
  num : NInv n S Nm
  binv : BInv (lngT T F 0) (S.map fun s => lngT T F s.toNat) W
  rep : ∀ s ∈ S, fstD D s.toNat = s.toNat
section
variable {T : List (List Int)} {F : List Bool} {n : Nat} {D : List (List Bool)} {S Nm W : List Int}
theorem QInv.start (hw : WF n T F) (h : Tab (nxT T) (fnF F) n (at2 D)) (hs : Sq n D) (h1 : 1 ≤ n) (hl : aliveW T F 0) : QInv T F n D [0] ((List.replicate n 0).set 0 1) [] where
  num := .start h1
  binv := BInv.start (alive_iff.1 hl)
  rep := fun s hs' => by
    simp at hs'
    subst hs'
    have := (fst_ex hw h hs (i := 0) h1).1
    show fstD D 0 = 0
    omega
variable (hw : WF n T F) (hT : Tab (nxT T) (fnF F) n (at2 D)) (hs : Sq n D)
include hw hT hs in
theorem QInv.dead (h : QInv T F n D S Nm W) {s : Int} {i c x : Nat} (hsi : S[i]? = some s) (hW : W.length = 8 * i + c) (hc8 : c < 8) (hx : nxT T s.toNat c = x) (hd : ¬ aliveW T F (fstD D x)) : QInv T F n D S Nm (W ++ [-1]) := by
  obtain ⟨h0, h1⟩ := h.num.st s (List.mem_of_getElem? hsi)
  have e1 : W.length / 8 = i := by omega
  have e2 : W.length % 8 = c := by omega
  have hxn : x < n := hx ▸ hw.nx (by omega) hc8
  refine ⟨h.num, h.binv.put (L := lngT T F s.toNat) (by rw [e1, List.getElem?_map, hsi]; rfl) (.inl ⟨rfl, ?_⟩), h.rep⟩
  rw [e2, ← lng_nx hc8, hx, ← (fst_lng hw hT hs hxn).2]
  exact Classical.byContradiction fun hn => hd (alive_iff.2 hn)
include hw hT hs in
theorem QInv.known (h : QInv T F n D S Nm W) {s : Int} {i c x : Nat} (hsi : S[i]? = some s) (hW : W.length = 8 * i + c) (hc8 : c < 8) (hx : nxT T s.toNat c = x) {v : Int} (hv : Nm[fstD D x]? = some v) (h0 : v ≠ 0) : QInv T F n D S Nm (W ++ [v - 1]) := by
  obtain ⟨hs0, hs1⟩ := h.num.st s (List.mem_of_getElem? hsi)
  have e1 : W.length / 8 = i := by omega
  have e2 : W.length % 8 = c := by omega
  have hxn : x < n := hx ▸ hw.nx (by omega) hc8
  rcases h.num.num _ v hv with h1 | ⟨j, h1, h2⟩
  · exact absurd h1 h0
  · refine ⟨h.num, h.binv.put (L := lngT T F s.toNat) (by rw [e1, List.getElem?_map, hsi]; rfl) (.inr ⟨j, by omega, ?_⟩), h.rep⟩
    rw [e2, ← lng_nx hc8, hx, ← (fst_lng hw hT hs hxn).2, List.getElem?_map, h1]
    simp
include hw hT hs in
theorem QInv.new (h : QInv T F n D S Nm W) {s : Int} {i c x : Nat} (hsi : S[i]? = some s) (hW : W.length = 8 * i + c) (hc8 : c < 8) (hx : nxT T s.toNat c = x) (hl : aliveW T F (fstD D x)) (hv : Nm[fstD D x]? = some 0) :
    QInv T F n D (S ++ [((fstD D x : Nat) : Int)]) (Nm.set (fstD D x) ((S.length : Int) + 1)) (W ++ [(S.length : Int)]) := by
  obtain ⟨hs0, hs1⟩ := h.num.st s (List.mem_of_getElem? hsi)
  have e1 : W.length / 8 = i := by omega
  have e2 : W.length % 8 = c := by omega
  have hxn : x < n := hx ▸ hw.nx (by omega) hc8
  obtain ⟨hk, hkl⟩ := fst_lng hw hT hs hxn
  have hfk : fstD D (fstD D x) = fstD D x := fst_same hw hT hs hk hxn hkl
  have hg := h.binv.grow (L := lngT T F s.toNat) (by rw [e1, List.getElem?_map, hsi]; rfl) (by
    rw [e2, ← lng_nx hc8, hx, ← hkl]
    intro hm
    obtain ⟨t, ht, e⟩ := List.mem_map.1 hm
    obtain ⟨t0, t1⟩ := h.num.st t ht
    have h3 := fst_same hw hT hs (i := t.toNat) (j := fstD D x) (by omega) hk e
    rw [h.rep t ht, hfk] at h3
    refine h.num.out hv ?_
    rw [← h3, Int.toNat_of_nonneg t0]
    exact ht) (by rw [e2, ← lng_nx hc8, hx, ← hkl]; exact alive_iff.1 hl)
  rw [e2, ← lng_nx hc8, hx, ← hkl, List.length_map] at hg
  refine ⟨h.num.grow hv, by rw [List.map_append]; simpa using hg, fun t ht => ?_⟩
  rcases List.mem_append.1 ht with ht | ht
  · exact h.rep t ht
  · simp at ht
    subst ht
    rw [Int.toNat_natCast]
    exact hfk
theorem QInv.canon {R : List (List Int)} {G : List Bool} (h : QInv T F n D S Nm R.flatten) (hR : R.length = S.length) (h8 : ∀ r ∈ R, r.length = 8) (hG : G = S.map fun s => fnF F s.toNat) : CanonM (lngT T F 0) R G := by
  refine ⟨⟨_, ⟨h.binv, ?_⟩, ?_⟩, h8⟩
  · rw [List.length_map, ← hR]
    exact flat_len h8
  · rw [hG, List.map_map]
    refine List.map_congr_left fun s _ => ?_
    simp [lng_nil]
end
end Go.Proofs.YtmjglpdfkkmcoaaDoor
