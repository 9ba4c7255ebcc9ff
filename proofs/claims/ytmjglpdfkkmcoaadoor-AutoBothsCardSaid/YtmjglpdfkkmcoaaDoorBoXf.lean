/- The document's AutoBoth and SameAuto walked, and the law. No conditions. -/
import Derived.Test.YtmjglpdfkkmcoaaDoorBoXe
import Derived.Test.YtmjglpdfkkmcoaaDoorBoXa
import Derived.Test.YtmjglpdfkkmcoaaDoorBoXo
import Derived.Test.YtmjglpdfkkmcoaaDoorBoXm
/-! Both machines: the plain law. No conditions. -/
set_option linter.unusedSimpArgs false
set_option linter.unusedVariables false
set_option maxRecDepth 100000
namespace Go.Proofs.YtmjglpdfkkmcoaaDoor

def stN (n : Nat) (x : Int) : Nat := if 0 ≤ x then x.toNat else n
theorem stN_lt {n : Nat} {x : Int} (h : stOk n x) : stN n x < n + 1 := by
  obtain ⟨h1, h2⟩ := h
  unfold stN
  split <;> omega
theorem totT_len (T : List (List Int)) : (totT T).length = T.length + 1 := by simp [totT]
theorem tot_row {T : List (List Int)} {F : List Bool} (h : mayOk T F = true) {x : Int} (hx : stOk T.length x) {c : Nat} (hc : c < 8) : ∃ row y, (totT T)[stN T.length x]? = some row ∧ row[c]? = some y ∧ y = (stN T.length (stepI T x c) : Nat) := by
  by_cases h0 : 0 ≤ x
  · obtain ⟨row, to, hrow, h8, hto, hs, e⟩ := may_row h hx h0 hc
    obtain ⟨hx1, hx2⟩ := hx
    refine ⟨row.map (deadS T.length), deadS T.length to, ?_, by rw [List.getElem?_map, hto]; rfl, ?_⟩
    · unfold totT stN
      rw [if_pos h0, List.getElem?_append_left (by simp; omega), List.getElem?_map, hrow]
      rfl
    · rw [e]
      unfold deadS stN
      obtain ⟨hs1, hs2⟩ := hs
      split <;> split <;> omega
  · refine ⟨List.replicate 8 (T.length : Int), T.length, ?_, by rw [List.getElem?_replicate, if_pos hc], ?_⟩
    · unfold totT stN
      rw [if_neg h0, List.getElem?_append_right (by simp)]
      simp
    · simp [stepI, h0, stN]
theorem run_ok {T : List (List Int)} {F : List Bool} (h : mayOk T F = true) : ∀ (w : List Nat) (x : Int), stOk T.length x → wordOk w → stOk T.length (runI T x w)
  | [], x, hx, _ => hx
  | c :: w, x, hx, hw => run_ok h w (stepI T x c) (step_ok h hx (hw c (by simp))) (fun d hd => hw d (by simp [hd]))
theorem fin_tot {T : List (List Int)} {F : List Bool} (h : mayOk T F = true) {x : Int} (hx : stOk T.length x) : (totF F)[stN T.length x]? = some (finI F x) := by
  obtain ⟨_, _, hF, _⟩ := may_parts h
  obtain ⟨hx1, hx2⟩ := hx
  unfold totF stN finI
  split
  · rename_i h0
    obtain ⟨b, hb⟩ : ∃ y, F[x.toNat]? = some y := ⟨_, List.getElem?_eq_getElem (by omega)⟩
    rw [List.getElem?_append_left (by omega), hb]
    simp [h0]
  · rename_i h0
    rw [List.getElem?_append_right (by omega), hF, Nat.sub_self]
    simp [h0]
theorem tot_rows {T : List (List Int)} {F : List Bool} (h : mayOk T F = true) : ∀ r ∈ totT T, r.length = 8 ∧ ∀ x ∈ r, 0 ≤ x ∧ x ≤ (T.length : Int) := by
  intro r hr
  obtain ⟨_, _, _, hrow⟩ := may_parts h
  unfold totT at hr
  rw [List.mem_append] at hr
  rcases hr with hr | hr
  · obtain ⟨q, hq, rfl⟩ := List.mem_map.1 hr
    obtain ⟨h8, hs⟩ := hrow q hq
    refine ⟨by simp [h8], fun x hx => ?_⟩
    obtain ⟨y, hy, rfl⟩ := List.mem_map.1 hx
    obtain ⟨s1, s2⟩ := hs y hy
    unfold deadS
    split <;> omega
  · rw [List.mem_singleton] at hr
    subst hr
    refine ⟨by simp, fun x hx => ?_⟩
    have := List.eq_of_mem_replicate hx
    omega
/-- The words that both read. -/
def bothL (T1 : List (List Int)) (F1 : List Bool) (T2 : List (List Int)) (F2 : List Bool) : Lng := fun w => w.all (fun c => decide (c < 8)) && (finI F1 (runI T1 0 w) && finI F2 (runI T2 0 w))
theorem lng_is {T : List (List Int)} {F : List Bool} {x : Nat} {L : Lng} (h1 : ∀ w, wordOk w → fnF F (w.foldl (nxT T) x) = L w) (h2 : ∀ w, w.all (fun c => decide (c < 8)) = false → L w = false) : lngT T F x = L := by
  funext w
  unfold lngT
  cases hb : w.all (fun c => decide (c < 8)) with
  | false => rw [h2 w hb]; rfl
  | true => rw [h1 w (fun c hc => of_decide_eq_true (List.all_eq_true.1 hb c hc))]; rfl
theorem tot_wf {T : List (List Int)} {F : List Bool} (h : mayOk T F = true) : WF (T.length + 1) (totT T) (totF F) := by
  obtain ⟨_, _, hF, _⟩ := may_parts h
  exact ⟨totT_len T, by simp [totF, hF], fun r hr => ⟨(tot_rows h r hr).1, fun x hx => by have := (tot_rows h r hr).2 x hx; omega⟩⟩
theorem tot_nx {T : List (List Int)} {F : List Bool} (h : mayOk T F = true) {x : Int} (hx : stOk T.length x) {c : Nat} (hc : c < 8) : nxT (totT T) (stN T.length x) c = stN T.length (stepI T x c) := by
  obtain ⟨row, y, h1, h2, e⟩ := tot_row h hx hc
  simp [nxT, h1, h2, e]
theorem tot_fn {T : List (List Int)} {F : List Bool} (h : mayOk T F = true) {x : Int} (hx : stOk T.length x) : fnF (totF F) (stN T.length x) = finI F x := by
  simp [fnF, fin_tot h hx]
/-! ### The product -/
section
variable {A B : List (List Int)} {FA FB : List Bool} {n1 n2 : Nat}
theorem prodT_get (hB : B.length = n2) : ∀ {A : List (List Int)} {i k : Nat} {r1 r2 : List Int}, A[i]? = some r1 → B[k]? = some r2 → (prodT n2 A B)[i * n2 + k]? = some (prow n2 r1 r2)
  | [], i, k, r1, r2, h1, _ => by simp at h1
  | r :: A, 0, k, r1, r2, h1, h2 => by
    simp at h1
    subst h1
    have hk := (List.getElem?_eq_some_iff.1 h2).1
    unfold prodT
    rw [List.flatMap_cons, Nat.zero_mul, Nat.zero_add, List.getElem?_append_left (by simpa using hk), List.getElem?_map, h2]
    rfl
  | r :: A, i + 1, k, r1, r2, h1, h2 => by
    have ih := prodT_get hB (A := A) (i := i) (by simpa using h1) h2
    unfold prodT at ih ⊢
    rw [List.flatMap_cons, List.getElem?_append_right (by rw [List.length_map, hB, Nat.add_mul]; omega), List.length_map, hB, ← ih]
    congr 1
    rw [Nat.add_mul]
    omega
theorem prodF_get (hB : FB.length = n2) : ∀ {FA : List Bool} {i k : Nat} {b1 b2 : Bool}, FA[i]? = some b1 → FB[k]? = some b2 → (prodF FA FB)[i * n2 + k]? = some (b1 && b2)
  | [], i, k, r1, r2, h1, _ => by simp at h1
  | r :: A, 0, k, r1, r2, h1, h2 => by
    simp at h1
    subst h1
    have hk := (List.getElem?_eq_some_iff.1 h2).1
    unfold prodF
    rw [List.flatMap_cons, Nat.zero_mul, Nat.zero_add, List.getElem?_append_left (by simpa using hk), List.getElem?_map, h2]
    rfl
  | r :: A, i + 1, k, r1, r2, h1, h2 => by
    have ih := prodF_get hB (FA := A) (i := i) (by simpa using h1) h2
    unfold prodF at ih ⊢
    rw [List.flatMap_cons, List.getElem?_append_right (by rw [List.length_map, hB, Nat.add_mul]; omega), List.length_map, hB, ← ih]
    congr 1
    rw [Nat.add_mul]
    omega
theorem prow_get {r1 r2 : List Int} {c : Nat} {x y : Int} (h1 : r1[c]? = some x) (h2 : r2[c]? = some y) : (prow n2 r1 r2)[c]? = some (x * (n2 : Int) + y) := by
  unfold prow
  rw [List.getElem?_zipWith, h1, h2]
theorem prod_nx (hA : WF n1 A FA) (hB : WF n2 B FB) {i k c : Nat} (hi : i < n1) (hk : k < n2) (hc : c < 8) : nxT (prodT n2 A B) (i * n2 + k) c = nxT A i c * n2 + nxT B k c := by
  obtain ⟨r1, x, g1, _, gx, x0, _, e1⟩ := hA.get hi hc
  obtain ⟨r2, y, g2, _, gy, y0, _, e2⟩ := hB.get hk hc
  have hp := prodT_get hB.lenN g1 g2
  have : nxT (prodT n2 A B) (i * n2 + k) c = (x * (n2 : Int) + y).toNat := by simp [nxT, hp, prow_get gx gy]
  rw [this, e1, e2]
  have ex : x = ((x.toNat : Nat) : Int) := by omega
  have ey : y = ((y.toNat : Nat) : Int) := by omega
  rw [ex, ey, ← Int.natCast_mul, ← Int.natCast_add, Int.toNat_natCast, Int.toNat_natCast, Int.toNat_natCast]
theorem prod_fn (hA : WF n1 A FA) (hB : WF n2 B FB) {i k : Nat} (hi : i < n1) (hk : k < n2) : fnF (prodF FA FB) (i * n2 + k) = (fnF FA i && fnF FB k) := by
  have := prodF_get hB.lenF (hA.fin hi) (hB.fin hk)
  unfold fnF at this ⊢
  rw [this]
  rfl
theorem prod_wf (hA : WF n1 A FA) (hB : WF n2 B FB) : WF (n1 * n2) (prodT n2 A B) (prodF FA FB) := by
  refine ⟨by rw [prodT_len hB.lenN, hA.lenN], by rw [prodF_len hB.lenF, hA.lenF], fun r hr => ?_⟩
  unfold prodT at hr
  rw [List.mem_flatMap] at hr
  obtain ⟨r1, h1, hr⟩ := hr
  rw [List.mem_map] at hr
  obtain ⟨r2, h2, rfl⟩ := hr
  obtain ⟨l1, b1⟩ := hA.rows r1 h1
  obtain ⟨l2, b2⟩ := hB.rows r2 h2
  refine ⟨by simp [prow, l1, l2], fun z hz => ?_⟩
  obtain ⟨c, hc⟩ := List.mem_iff_getElem?.1 hz
  have hcl := (List.getElem?_eq_some_iff.1 hc).1
  simp only [prow, List.length_zipWith, l1, l2] at hcl
  obtain ⟨x, hx⟩ : ∃ x, r1[c]? = some x := ⟨_, List.getElem?_eq_getElem (by omega)⟩
  obtain ⟨y, hy⟩ : ∃ y, r2[c]? = some y := ⟨_, List.getElem?_eq_getElem (by omega)⟩
  rw [prow_get hx hy] at hc
  cases hc
  obtain ⟨x0, x1⟩ := b1 x (List.mem_of_getElem? hx)
  obtain ⟨y0, y1⟩ := b2 y (List.mem_of_getElem? hy)
  refine ⟨by have := Int.mul_nonneg x0 (show (0 : Int) ≤ n2 by omega); omega, ?_⟩
  have h3 : (x + 1) * (n2 : Int) ≤ n1 * n2 := Int.mul_le_mul_of_nonneg_right (by omega) (by omega)
  rw [Int.add_mul, Int.one_mul] at h3
  rw [Int.natCast_mul]
  omega
theorem prod_lng {T1 T2 : List (List Int)} {F1 F2 : List Bool} (m1 : mayOk T1 F1 = true) (m2 : mayOk T2 F2 = true) : lngT (prodT (T2.length + 1) (totT T1) (totT T2)) (prodF (totF F1) (totF F2)) 0 = bothL T1 F1 T2 F2 := by
  have w1 := tot_wf m1
  have w2 := tot_wf m2
  have key : ∀ (w : List Nat) (x y : Int), stOk T1.length x → stOk T2.length y → wordOk w → fnF (prodF (totF F1) (totF F2)) (w.foldl (nxT (prodT (T2.length + 1) (totT T1) (totT T2))) (stN T1.length x * (T2.length + 1) + stN T2.length y)) = (finI F1 (runI T1 x w) && finI F2 (runI T2 y w)) := by
    intro w
    induction w with
    | nil =>
      intro x y hx hy _
      rw [List.foldl_nil, prod_fn w1 w2 (stN_lt hx) (stN_lt hy), tot_fn m1 hx, tot_fn m2 hy]
      rfl
    | cons c w ih =>
      intro x y hx hy hw
      have hc := hw c (by simp)
      rw [List.foldl_cons, prod_nx w1 w2 (stN_lt hx) (stN_lt hy) hc, tot_nx m1 hx hc, tot_nx m2 hy hc]
      exact ih _ _ (step_ok m1 hx hc) (step_ok m2 hy hc) (fun d hd => hw d (by simp [hd]))
  obtain ⟨p1, _⟩ := may_parts m1
  obtain ⟨p2, _⟩ := may_parts m2
  refine lng_is (fun w hw => ?_) (fun w hw => by simp only [bothL, hw, Bool.false_and])
  have := key w 0 0 ⟨by omega, by omega⟩ ⟨by omega, by omega⟩ hw
  have e : stN T1.length 0 * (T2.length + 1) + stN T2.length 0 = 0 := by simp [stN]
  rw [e] at this
  rw [this]
  have hall : w.all (fun c => decide (c < 8)) = true := List.all_eq_true.2 fun c hc => decide_eq_true (hw c hc)
  simp only [bothL, hall, Bool.true_and]
end
/-! ### The pairs -/
def pairF (F1 F2 : List Bool) (M : List ((Int × Int) × Int)) : List Bool := (M.map (·.1)).map fun p => finI F1 p.1 && finI F2 p.2
section
variable {T1 T2 : List (List Int)} {F1 F2 : List Bool} {M : List ((Int × Int) × Int)} {N : List (List Int)}
theorem pair_wf (h : Pairs T1 T2 M N) : WF M.length N (pairF F1 F2 M) := by
  refine ⟨h.len, by simp [pairF], fun r hr => ?_⟩
  obtain ⟨j, hj⟩ := List.mem_iff_getElem?.1 hr
  obtain ⟨h8, hl⟩ := h.rows j r hj
  refine ⟨h8, fun x hx => ?_⟩
  obtain ⟨c, hc⟩ := List.mem_iff_getElem?.1 hx
  obtain ⟨n, p, rfl, _, h2⟩ := hl c x hc
  have := (List.getElem?_eq_some_iff.1 h2).1
  simp at this
  omega
theorem pair_lng (h : Pairs T1 T2 M N) : lngT N (pairF F1 F2 M) 0 = bothL T1 F1 T2 F2 := by
  have key : ∀ (w : List Nat) (j : Nat) (p : Int × Int), (M.map (·.1))[j]? = some p → wordOk w → fnF (pairF F1 F2 M) (w.foldl (nxT N) j) = (finI F1 (runI T1 p.1 w) && finI F2 (runI T2 p.2 w)) := by
    intro w
    induction w with
    | nil =>
      intro j p hj _
      unfold fnF pairF
      rw [List.foldl_nil, List.getElem?_map, hj]
      rfl
    | cons c w ih =>
      intro j p hj hw
      have hc := hw c (by simp)
      have hjl : j < N.length := by
        have := (List.getElem?_eq_some_iff.1 hj).1
        rw [h.len]
        simpa using this
      obtain ⟨r, hr⟩ : ∃ r, N[j]? = some r := ⟨_, List.getElem?_eq_getElem hjl⟩
      obtain ⟨h8, hl⟩ := h.rows j r hr
      obtain ⟨k, hk⟩ : ∃ k, r[c]? = some k := ⟨_, List.getElem?_eq_getElem (by omega)⟩
      obtain ⟨n, q, rfl, hq, hn⟩ := hl c k hk
      rw [hj] at hq
      cases hq
      have hnx : nxT N j c = n := by simp [nxT, hr, hk]
      rw [List.foldl_cons, hnx]
      exact ih n _ hn (fun d hd => hw d (by simp [hd]))
  refine lng_is (fun w hw => ?_) (fun w hw => by simp only [bothL, hw, Bool.false_and])
  rw [key w 0 (0, 0) h.inv.first hw]
  have hall : w.all (fun c => decide (c < 8)) = true := List.all_eq_true.2 fun c hc => decide_eq_true (hw c hc)
  simp only [bothL, hall, Bool.true_and]
end
end Go.Proofs.YtmjglpdfkkmcoaaDoor

/-! auto.Both walked: the machine in order of the words that both read. No conditions. -/
namespace Go.Proofs.YtmjglpdfkkmcoaaDoor
open Go.RowKit

def BothR (T1 : List (List Int)) (F1 : List Bool) (T2 : List (List Int)) (F2 : List Bool) (r : V) : Prop :=
  (¬ (mayOk T1 F1 = true ∧ mayOk T2 F2 = true) ∧ r = .tup [.agg [.nils, .nils], .int .i64 4]) ∨ (mayOk T1 F1 = true ∧ mayOk T2 F2 = true ∧ OrdR (bothL T1 F1 T2 F2) r)
set_option maxHeartbeats 8000000 in
theorem both_bad {T1 T2 : List (List Int)} {F1 F2 : List Bool} (h : ¬ (mayOk T1 F1 = true ∧ mayOk T2 F2 = true)) : Fn1 Tryd.prog 8 [autoV T1 F1, autoV T2 F2] (fun r => r = .tup [.agg [.nils, .nils], .int .i64 4]) := by
  have f1 := may T1 F1
  have f2 := may T2 F2
  cases m1 : mayOk T1 F1 with
  | false =>
    rw [m1] at f1
    cases m2 : mayOk T2 F2 <;> rw [m2] at f2
    all_goals
      refine fn1E (T := Tryd.tt) Tryd.func8 rfl tt_all follows_all ?_ ?_ fun C hC hE => ?_
      · kernel_rfl
      · exact Nat.le_of_ble_eq_true (by kernel_rfl)
      conv => whnf
      repeat' (first | (refine brd_t (by first | assumption | omega) ?_; conv => whnf) | (refine brd_f (by first | assumption | omega) ?_; conv => whnf) | (refine ask (by first | assumption | omega) ?_; conv => whnf) | (refine fit64 (by omega) ?_; conv => whnf) | (refine fit (by simp only [kmin, kmax]; omega) ?_; conv => whnf) | (refine br_t (by assumption) ?_; conv => whnf) | (refine br_f (by assumption) ?_; conv => whnf) | (refine get_of (by assumption) ?_; conv => whnf) | (refine get_map (by assumption) ?_; conv => whnf) | (refine call_eq (f1) hC hasBody_22 ?_ ?_ ?_; kernel_rfl; kernel_rfl; conv => whnf) | (refine callq_eq (f1) hC hasBody_22 ?_ ?_ ?_; kernel_rfl; kernel_rfl; conv => whnf) | (refine call_eq (f2) hC hasBody_22 ?_ ?_ ?_; kernel_rfl; kernel_rfl; conv => whnf) | (refine callq_eq (f2) hC hasBody_22 ?_ ?_ ?_; kernel_rfl; kernel_rfl; conv => whnf) | (refine draw_lex hE ?_ ?_; decide +kernel; conv => whnf) | (refine draw_any hE [⟨1, [(0, none), (1, none), (2, none), (3, none), (4, none), (5, none), (6, none), (7, none), (8, none), (9, none), (10, none), (11, none), (12, some 0)], some 13, [], [[]], []⟩, ⟨0, [(14, none)], some 15, [], [[]], []⟩] ?_ ?_; decide +kernel; conv => whnf) | (refine brd (fun h => ?_) (fun h => ?_) <;> conv => whnf) | (refine br (fun h => ?_) (fun h => ?_) <;> conv => whnf) | (refine ret_now hE ?_; conv => whnf) | (intro hlen; conv => whnf) | (refine seg_here ?_; conv => whnf) | (refine both ?_ ?_ <;> conv => whnf))
      all_goals exact ⟨rfl, rfl⟩
  | true =>
    cases m2 : mayOk T2 F2 with
    | true => exact absurd ⟨m1, m2⟩ h
    | false =>
      rw [m1] at f1
      rw [m2] at f2
      refine fn1E (T := Tryd.tt) Tryd.func8 rfl tt_all follows_all ?_ ?_ fun C hC hE => ?_
      · kernel_rfl
      · exact Nat.le_of_ble_eq_true (by kernel_rfl)
      conv => whnf
      repeat' (first | (refine brd_t (by first | assumption | omega) ?_; conv => whnf) | (refine brd_f (by first | assumption | omega) ?_; conv => whnf) | (refine ask (by first | assumption | omega) ?_; conv => whnf) | (refine fit64 (by omega) ?_; conv => whnf) | (refine fit (by simp only [kmin, kmax]; omega) ?_; conv => whnf) | (refine br_t (by assumption) ?_; conv => whnf) | (refine br_f (by assumption) ?_; conv => whnf) | (refine get_of (by assumption) ?_; conv => whnf) | (refine get_map (by assumption) ?_; conv => whnf) | (refine call_eq (f1) hC hasBody_22 ?_ ?_ ?_; kernel_rfl; kernel_rfl; conv => whnf) | (refine callq_eq (f1) hC hasBody_22 ?_ ?_ ?_; kernel_rfl; kernel_rfl; conv => whnf) | (refine call_eq (f2) hC hasBody_22 ?_ ?_ ?_; kernel_rfl; kernel_rfl; conv => whnf) | (refine callq_eq (f2) hC hasBody_22 ?_ ?_ ?_; kernel_rfl; kernel_rfl; conv => whnf) | (refine draw_lex hE ?_ ?_; decide +kernel; conv => whnf) | (refine draw_any hE [⟨1, [(0, none), (1, none), (2, none), (3, none), (4, none), (5, none), (6, none), (7, none), (8, none), (9, none), (10, none), (11, none), (12, some 0)], some 13, [], [[]], []⟩, ⟨0, [(14, none)], some 15, [], [[]], []⟩] ?_ ?_; decide +kernel; conv => whnf) | (refine brd (fun h => ?_) (fun h => ?_) <;> conv => whnf) | (refine br (fun h => ?_) (fun h => ?_) <;> conv => whnf) | (refine ret_now hE ?_; conv => whnf) | (intro hlen; conv => whnf) | (refine seg_here ?_; conv => whnf) | (refine both ?_ ?_ <;> conv => whnf))
      all_goals exact ⟨rfl, rfl⟩
set_option maxHeartbeats 16000000 in
theorem both_good {T1 T2 : List (List Int)} {F1 F2 : List Bool} (m1 : mayOk T1 F1 = true) (m2 : mayOk T2 F2 = true) : Fn1G Tryd.prog GT 8 [autoV T1 F1, autoV T2 F2] (OrdR (bothL T1 F1 T2 F2)) := by
  have f1 := may T1 F1
  have f2 := may T2 F2
  rw [m1] at f1
  rw [m2] at f2
  have hp := pairs_prog m1 m2
  have e2 : ∀ G : List Bool, List.take G.length (List.drop 0 (G.map V.bool)) = G.map V.bool := fun G => by rw [List.drop_zero, List.take_of_length_le (by simp)]
  obtain ⟨q1, q2, _⟩ := may_parts m1
  obtain ⟨q1', q2', _⟩ := may_parts m2
  refine fn1GE (T := Tryd.tt) Tryd.func8 rfl tt_all follows_all ?_ ?_ fun C hC hW hG hE => ?_
  · kernel_rfl
  · exact Nat.le_of_ble_eq_true (by kernel_rfl)
  conv => whnf
  have hG' := hG
  repeat' (first | (refine brd_t (by first | assumption | omega) ?_; conv => whnf) | (refine brd_f (by first | assumption | omega) ?_; conv => whnf) | (refine ask (by first | assumption | omega) ?_; conv => whnf) | (refine fit64 (by omega) ?_; conv => whnf) | (refine fit (by simp only [kmin, kmax]; omega) ?_; conv => whnf) | (refine br_t (by assumption) ?_; conv => whnf) | (refine br_f (by assumption) ?_; conv => whnf) | (refine get_of (by assumption) ?_; conv => whnf) | (refine get_map (by assumption) ?_; conv => whnf) | (refine call_eq (f1) hC hasBody_22 ?_ ?_ ?_; kernel_rfl; kernel_rfl; conv => whnf) | (refine callq_eq (f1) hC hasBody_22 ?_ ?_ ?_; kernel_rfl; kernel_rfl; conv => whnf) | (refine call_eq (f2) hC hasBody_22 ?_ ?_ ?_; kernel_rfl; kernel_rfl; conv => whnf) | (refine callq_eq (f2) hC hasBody_22 ?_ ?_ ?_; kernel_rfl; kernel_rfl; conv => whnf) | (refine draw_lex hE ?_ ?_; decide +kernel; conv => whnf) | (refine draw_any hE [⟨1, [(0, none), (1, none), (2, none), (3, none), (4, none), (5, none), (6, none), (7, none), (8, none), (9, none), (10, none), (11, none), (12, some 0)], some 13, [], [[]], []⟩, ⟨0, [(14, none)], some 15, [], [[]], []⟩] ?_ ?_; decide +kernel; conv => whnf) | (refine brd (fun h => ?_) (fun h => ?_) <;> conv => whnf) | (refine br (fun h => ?_) (fun h => ?_) <;> conv => whnf) | (refine ret_now hE ?_; conv => whnf) | (intro hlen; conv => whnf) | (refine seg_here ?_; conv => whnf) | (refine both ?_ ?_ <;> conv => whnf))
  refine call_fn hp hC hasBody_23 ?_ ?_ ?_
  · kernel_rfl
  · kernel_rfl
  intro r hr
  obtain ⟨M, N, rfl, hM⟩ := hr
  clear hp f1 f2
  have hMb := hM.inv.bound q2 q2'
  have hMm : ((M.map (·.1)).map pairA).length = M.length := by simp
  have hWF := pair_wf (F1 := F1) (F2 := F2) hM
  have hM1 : 1 ≤ M.length := by
    have := (List.getElem?_eq_some_iff.1 hM.inv.first).1
    simp at this
    omega
  have hord := order_walk hWF hM1 (by omega)
  rw [pair_lng hM] at hord
  conv => whnf
  repeat' (first | (refine brd_t (by first | assumption | omega) ?_; conv => whnf) | (refine brd_f (by first | assumption | omega) ?_; conv => whnf) | (refine ask (by first | assumption | omega) ?_; conv => whnf) | (refine fit64 (by omega) ?_; conv => whnf) | (refine fit (by simp only [kmin, kmax]; omega) ?_; conv => whnf) | (refine br_t (by assumption) ?_; conv => whnf) | (refine br_f (by assumption) ?_; conv => whnf) | (refine get_of (by assumption) ?_; conv => whnf) | (refine get_map (by assumption) ?_; conv => whnf) | (refine draw_lex hE ?_ ?_; decide +kernel; conv => whnf) | (refine draw_any hE [⟨1, [(0, none), (1, none), (2, none), (3, none), (4, none), (5, none), (6, none), (7, none), (8, none), (9, none), (10, none), (11, none), (12, some 0)], some 13, [], [[]], []⟩, ⟨0, [(14, none)], some 15, [], [[]], []⟩] ?_ ?_; decide +kernel; conv => whnf) | (refine brd (fun h => ?_) (fun h => ?_) <;> conv => whnf) | (refine br (fun h => ?_) (fun h => ?_) <;> conv => whnf) | (refine ret_now hE ?_; conv => whnf) | (intro hlen; conv => whnf) | (refine seg_here ?_; conv => whnf) | (refine both ?_ ?_ <;> conv => whnf))
  refine loopE (fun ((j, G) : Nat × List Bool) => ⟨54, [(2, .rp [.lst (T1.map ints), .lst (F1.map V.bool)]), (3, .rp [.lst (T2.map ints), .lst (F2.map V.bool)]), (4, .ptr 2 0 0), (5, .int .i64 0), (8, .ptr 3 0 0), (28, .lst ((M.map (·.1)).map pairA)), (29, .int .i64 M.length), (30, .int .i64 j)],
      [some (.row 1 (G.map V.bool)), none, some (.row 2 [.agg [.nils, .nils]]), some (.row 2 [.agg [.lst (N.map rowA), .sl 0 0 G.length]])]⟩)
    (fun (j, G) => j ≤ M.length ∧ G = (((M.map (·.1)).take j).map fun p => finI F1 p.1 && finI F2 p.2)) (fun (j, _) => M.length - j) (0, []) hE ?_ ?_ ⟨Nat.zero_le _, rfl⟩ ?_
  · kernel_rfl
  · refine up_freeze 0 (z := 2) (els := [autoV T1 F1]) rfl ⟨⟨trivial, trivial, trivial⟩, trivial⟩ (up_freeze 1 (z := 2) (els := [autoV T2 F2]) rfl ⟨⟨trivial, trivial, trivial⟩, trivial⟩ (up_ownF 3 1 1 rfl rfl (at_keep [2, 3, 4, 5, 8, 28, 29, 30] ?_)))
    conv => whnf
    rw [hMm]
    rfl
  rintro ⟨j, G⟩ ⟨hj, hG⟩
  have hGm : (G.map V.bool).length = G.length := by simp
  have hGl : G.length = j := by rw [hG]; simp; omega
  by_cases hlt : j < M.length
  · obtain ⟨p, hpj⟩ : ∃ p, (M.map (·.1))[j]? = some p := ⟨_, List.getElem?_eq_getElem (by simpa using hlt)⟩
    obtain ⟨o1, o2⟩ := hM.inv.ok p (List.mem_of_getElem? hpj)
    have g1 : ((M.map (·.1)).map pairA)[Int.toNat (j : Int)]? = some (pairA p) := by rw [Int.toNat_natCast, List.getElem?_map, hpj]; rfl
    have hf1 := final_prog m1 o1
    have hf2 := final_prog m2 o2
    have hG2 : G ++ [finI F1 p.1 && finI F2 p.2] = ((M.map (·.1)).take (j + 1)).map fun p => finI F1 p.1 && finI F2 p.2 := by
      rw [hG, List.take_add_one, hpj, List.map_append]
      rfl
    generalize finI F1 p.1 = b1 at hf1 hG2
    generalize finI F2 p.2 = b2 at hf2 hG2
    obtain ⟨x, y⟩ := p
    cases b1 <;> cases b2
    all_goals
      conv => whnf
      repeat' (first | (refine brd_t (by first | assumption | omega) ?_; conv => whnf) | (refine brd_f (by first | assumption | omega) ?_; conv => whnf) | (refine ask (by first | assumption | omega) ?_; conv => whnf) | (refine fit64 (by omega) ?_; conv => whnf) | (refine fit (by simp only [kmin, kmax]; omega) ?_; conv => whnf) | (refine br_t (by assumption) ?_; conv => whnf) | (refine br_f (by assumption) ?_; conv => whnf) | (refine get_of (by assumption) ?_; conv => whnf) | (refine get_map (by assumption) ?_; conv => whnf) | (refine call_eq (hf1) hC hasBody_24 ?_ ?_ ?_; kernel_rfl; kernel_rfl; conv => whnf) | (refine callq_eq (hf1) hC hasBody_24 ?_ ?_ ?_; kernel_rfl; kernel_rfl; conv => whnf) | (refine call_eq (hf2) hC hasBody_24 ?_ ?_ ?_; kernel_rfl; kernel_rfl; conv => whnf) | (refine callq_eq (hf2) hC hasBody_24 ?_ ?_ ?_; kernel_rfl; kernel_rfl; conv => whnf) | (refine get_of g1 ?_; conv => whnf) | (refine ask (Nat.le_refl 1) ?_; conv => whnf) | (refine ask ⟨?_, ?_, ?_⟩ ?_; (simp [killL_length] <;> omega); (show _ + 1 ≤ 9223372036854775807; omega); (show (_ + 1) * _ ≤ 140737488355328; omega); conv => whnf) | (refine draw_lex hE ?_ ?_; decide +kernel; conv => whnf) | (refine draw_any hE [⟨1, [(0, none), (1, none), (2, none), (3, none), (4, none), (5, none), (6, none), (7, none), (8, none), (9, none), (10, none), (11, none), (12, some 0)], some 13, [], [[]], []⟩, ⟨0, [(14, none)], some 15, [], [[]], []⟩] ?_ ?_; decide +kernel; conv => whnf) | (refine brd (fun h => ?_) (fun h => ?_) <;> conv => whnf) | (refine br (fun h => ?_) (fun h => ?_) <;> conv => whnf) | (refine ret_now hE ?_; conv => whnf) | (intro hlen; conv => whnf) | (refine seg_here ?_; conv => whnf) | (refine both ?_ ?_ <;> conv => whnf))
      all_goals
        refine next_drop [2, 3, 4, 5, 8, 28, 29, 30] [1, 4] (j + 1, G ++ [_]) ⟨hlt, hG2⟩ (by show M.length - (j + 1) < M.length - j; omega) ?_
        conv => whnf
        simp only [kill_nrL _ (nr_boo _), killL_join, e2, List.map_append, List.length_append]
        rfl
  · obtain rfl : j = M.length := by omega
    rw [List.take_of_length_le (by simp)] at hG
    have hGF : G = pairF F1 F2 M := hG
    rw [← hGF] at hord
    conv => whnf
    repeat' (first | (refine brd_t (by first | assumption | omega) ?_; conv => whnf) | (refine brd_f (by first | assumption | omega) ?_; conv => whnf) | (refine ask (by first | assumption | omega) ?_; conv => whnf) | (refine fit64 (by omega) ?_; conv => whnf) | (refine fit (by simp only [kmin, kmax]; omega) ?_; conv => whnf) | (refine br_t (by assumption) ?_; conv => whnf) | (refine br_f (by assumption) ?_; conv => whnf) | (refine get_of (by assumption) ?_; conv => whnf) | (refine get_map (by assumption) ?_; conv => whnf) | (refine draw_lex hE ?_ ?_; decide +kernel; conv => whnf) | (refine draw_any hE [⟨1, [(0, none), (1, none), (2, none), (3, none), (4, none), (5, none), (6, none), (7, none), (8, none), (9, none), (10, none), (11, none), (12, some 0)], some 13, [], [[]], []⟩, ⟨0, [(14, none)], some 15, [], [[]], []⟩] ?_ ?_; decide +kernel; conv => whnf) | (refine brd (fun h => ?_) (fun h => ?_) <;> conv => whnf) | (refine br (fun h => ?_) (fun h => ?_) <;> conv => whnf) | (refine ret_now hE ?_; conv => whnf) | (intro hlen; conv => whnf) | (refine seg_here ?_; conv => whnf) | (refine both ?_ ?_ <;> conv => whnf))
    refine call_up (up_freeze 0 (z := 1) (els := G.map V.bool) rfl (nr_boo G) (up_at [50, 4, 5] (σ' := ⟨54, [(50, .agg [.lst (N.map rowA), .lst (G.map V.bool)]), (4, .ptr 2 0 0), (5, .int .i64 0)], [none, none, some (.row 2 [.agg [.nils, .nils]]), some (.row 2 [.agg [.lst (N.map rowA), .lst (G.map V.bool)]])]⟩) ?_ ?_))
    · show (⟨54, [(50, .agg [.lst (N.map rowA), (V.sl 0 0 G.length).frz 0 (G.map V.bool)]), (4, .ptr 2 0 0), (5, .int .i64 0)], [none, none, some (.row 2 [.agg [.nils, .nils]]), some (.row 2 [.agg [.lst (N.map rowA), (V.sl 0 0 G.length).frz 0 (G.map V.bool)]])]⟩ : ES) = _
      rw [frz_self 0 _ hGm.symm]
    conv => whnf
    unfold wideV at hord
    refine callc_fn (hord.c hC hW kept_gt hG') hC hasBody_25 ?_ ?_ ?_
    · kernel_rfl
    · kernel_rfl
    intro r hr
    have hr0 := hr
    rcases hr with ⟨hd, rfl⟩ | ⟨R, K, hc, rfl⟩
    · conv => whnf
      repeat' (first | (refine brd_t (by first | assumption | omega) ?_; conv => whnf) | (refine brd_f (by first | assumption | omega) ?_; conv => whnf) | (refine ask (by first | assumption | omega) ?_; conv => whnf) | (refine fit64 (by omega) ?_; conv => whnf) | (refine fit (by simp only [kmin, kmax]; omega) ?_; conv => whnf) | (refine br_t (by assumption) ?_; conv => whnf) | (refine br_f (by assumption) ?_; conv => whnf) | (refine get_of (by assumption) ?_; conv => whnf) | (refine get_map (by assumption) ?_; conv => whnf) | (refine draw_lex hE ?_ ?_; decide +kernel; conv => whnf) | (refine draw_any hE [⟨1, [(0, none), (1, none), (2, none), (3, none), (4, none), (5, none), (6, none), (7, none), (8, none), (9, none), (10, none), (11, none), (12, some 0)], some 13, [], [[]], []⟩, ⟨0, [(14, none)], some 15, [], [[]], []⟩] ?_ ?_; decide +kernel; conv => whnf) | (refine brd (fun h => ?_) (fun h => ?_) <;> conv => whnf) | (refine br (fun h => ?_) (fun h => ?_) <;> conv => whnf) | (refine ret_now hE ?_; conv => whnf) | (intro hlen; conv => whnf) | (refine seg_here ?_; conv => whnf) | (refine both ?_ ?_ <;> conv => whnf))
      all_goals exact ⟨rfl, hr0⟩
    · split at hr0
      · rename_i hle
        rw [if_pos hle]
        conv => whnf
        repeat' (first | (refine brd_t (by first | assumption | omega) ?_; conv => whnf) | (refine brd_f (by first | assumption | omega) ?_; conv => whnf) | (refine ask (by first | assumption | omega) ?_; conv => whnf) | (refine fit64 (by omega) ?_; conv => whnf) | (refine fit (by simp only [kmin, kmax]; omega) ?_; conv => whnf) | (refine br_t (by assumption) ?_; conv => whnf) | (refine br_f (by assumption) ?_; conv => whnf) | (refine get_of (by assumption) ?_; conv => whnf) | (refine get_map (by assumption) ?_; conv => whnf) | (refine draw_lex hE ?_ ?_; decide +kernel; conv => whnf) | (refine draw_any hE [⟨1, [(0, none), (1, none), (2, none), (3, none), (4, none), (5, none), (6, none), (7, none), (8, none), (9, none), (10, none), (11, none), (12, some 0)], some 13, [], [[]], []⟩, ⟨0, [(14, none)], some 15, [], [[]], []⟩] ?_ ?_; decide +kernel; conv => whnf) | (refine brd (fun h => ?_) (fun h => ?_) <;> conv => whnf) | (refine br (fun h => ?_) (fun h => ?_) <;> conv => whnf) | (refine ret_now hE ?_; conv => whnf) | (intro hlen; conv => whnf) | (refine seg_here ?_; conv => whnf) | (refine both ?_ ?_ <;> conv => whnf))
        all_goals exact ⟨rfl, hr0⟩
      · rename_i hle
        rw [if_neg hle]
        conv => whnf
        repeat' (first | (refine brd_t (by first | assumption | omega) ?_; conv => whnf) | (refine brd_f (by first | assumption | omega) ?_; conv => whnf) | (refine ask (by first | assumption | omega) ?_; conv => whnf) | (refine fit64 (by omega) ?_; conv => whnf) | (refine fit (by simp only [kmin, kmax]; omega) ?_; conv => whnf) | (refine br_t (by assumption) ?_; conv => whnf) | (refine br_f (by assumption) ?_; conv => whnf) | (refine get_of (by assumption) ?_; conv => whnf) | (refine get_map (by assumption) ?_; conv => whnf) | (refine draw_lex hE ?_ ?_; decide +kernel; conv => whnf) | (refine draw_any hE [⟨1, [(0, none), (1, none), (2, none), (3, none), (4, none), (5, none), (6, none), (7, none), (8, none), (9, none), (10, none), (11, none), (12, some 0)], some 13, [], [[]], []⟩, ⟨0, [(14, none)], some 15, [], [[]], []⟩] ?_ ?_; decide +kernel; conv => whnf) | (refine brd (fun h => ?_) (fun h => ?_) <;> conv => whnf) | (refine br (fun h => ?_) (fun h => ?_) <;> conv => whnf) | (refine ret_now hE ?_; conv => whnf) | (intro hlen; conv => whnf) | (refine seg_here ?_; conv => whnf) | (refine both ?_ ?_ <;> conv => whnf))
        all_goals exact ⟨rfl, hr0⟩
end Go.Proofs.YtmjglpdfkkmcoaaDoor

/-! The document's AutoBoth and SameAuto walked, and the law. No conditions. -/
namespace Go.Proofs.YtmjglpdfkkmcoaaDoor
open Go.RowKit

/-- What the order answers is one and the same. -/
theorem ord_det (L0 : Lng) : ∃ r0 : V, (∀ r, OrdR L0 r → r = r0) ∧ ((∃ (R : List (List Int)) (G : List Bool) (e : Int), r0 = .tup [.agg [.lst (R.map ints), .lst (G.map V.bool)], .int .i64 e]) ∨ ∃ e : Int, r0 = .tup [.agg [.nils, .nils], .int .i64 e]) := by
  by_cases hd : deadL L0
  · refine ⟨_, fun r hr => ?_, .inl ⟨[List.replicate 8 (-1)], [false], 0, rfl⟩⟩
    rcases hr with ⟨_, rfl⟩ | ⟨R, G, hc, _⟩
    · rfl
    · obtain ⟨ls, h, _⟩ := hc.ex
      exact absurd hd (h.inv.live _ (List.mem_of_getElem? h.inv.first))
  · by_cases hc : ∃ R G, CanonM L0 R G
    · obtain ⟨R, G, hc⟩ := hc
      refine ⟨if R.length ≤ 40 then .tup [.agg [.lst (R.map ints), .lst (G.map V.bool)], .int .i64 0] else .tup [.agg [.nils, .nils], .int .i64 1], fun r hr => ?_, ?_⟩
      · rcases hr with ⟨h, _⟩ | ⟨R', G', hc', rfl⟩
        · exact absurd h hd
        · obtain ⟨rfl, rfl⟩ := canonM_eq hc hc'
          rfl
      · split
        · exact .inl ⟨R, G, 0, rfl⟩
        · exact .inr ⟨1, rfl⟩
    · refine ⟨_, fun r hr => ?_, .inr ⟨0, rfl⟩⟩
      rcases hr with ⟨h, _⟩ | ⟨R', G', hc', _⟩
      · exact absurd h hd
      · exact absurd ⟨R', G', hc'⟩ hc
set_option maxHeartbeats 8000000 in
theorem docboth_bad {T1 T2 : List (List Int)} {F1 F2 : List Bool} (h : ¬ (mayOk T1 F1 = true ∧ mayOk T2 F2 = true)) : Fn1 Tryd.prog 9 [autoV T1 F1, autoV T2 F2] (fun r => r = .tup [.agg [.nils, .nils], .int .i64 4]) := by
  have f1 := auto_may T1 F1
  have f2 := auto_may T2 F2
  cases m1 : mayOk T1 F1 with
  | false =>
    rw [m1] at f1
    cases m2 : mayOk T2 F2 <;> rw [m2] at f2
    all_goals
      refine fn1E (T := Tryd.tt) Tryd.func9 rfl tt_all follows_all ?_ ?_ fun C hC hE => ?_
      · kernel_rfl
      · exact Nat.le_of_ble_eq_true (by kernel_rfl)
      conv => whnf
      repeat' (first | (refine brd_t (by first | assumption | omega) ?_; conv => whnf) | (refine brd_f (by first | assumption | omega) ?_; conv => whnf) | (refine ask (by first | assumption | omega) ?_; conv => whnf) | (refine fit64 (by omega) ?_; conv => whnf) | (refine fit (by simp only [kmin, kmax]; omega) ?_; conv => whnf) | (refine br_t (by assumption) ?_; conv => whnf) | (refine br_f (by assumption) ?_; conv => whnf) | (refine get_of (by assumption) ?_; conv => whnf) | (refine get_map (by assumption) ?_; conv => whnf) | (refine call_eq (f1) hC hasBody_26 ?_ ?_ ?_; kernel_rfl; kernel_rfl; conv => whnf) | (refine callq_eq (f1) hC hasBody_26 ?_ ?_ ?_; kernel_rfl; kernel_rfl; conv => whnf) | (refine call_eq (f2) hC hasBody_26 ?_ ?_ ?_; kernel_rfl; kernel_rfl; conv => whnf) | (refine callq_eq (f2) hC hasBody_26 ?_ ?_ ?_; kernel_rfl; kernel_rfl; conv => whnf) | (refine draw_lex hE ?_ ?_; decide +kernel; conv => whnf) | (refine draw_any hE [⟨0, [(0, none), (1, none), (2, none), (3, none), (4, none), (5, none), (6, none), (7, none)], some 8, [], [[]], []⟩, ⟨0, [(9, none)], none, [], [[]], []⟩] ?_ ?_; decide +kernel; conv => whnf) | (refine brd (fun h => ?_) (fun h => ?_) <;> conv => whnf) | (refine br (fun h => ?_) (fun h => ?_) <;> conv => whnf) | (refine ret_now hE ?_; conv => whnf) | (intro hlen; conv => whnf) | (refine seg_here ?_; conv => whnf) | (refine both ?_ ?_ <;> conv => whnf))
      all_goals exact ⟨rfl, rfl⟩
  | true =>
    cases m2 : mayOk T2 F2 with
    | true => exact absurd ⟨m1, m2⟩ h
    | false =>
      rw [m1] at f1
      rw [m2] at f2
      refine fn1E (T := Tryd.tt) Tryd.func9 rfl tt_all follows_all ?_ ?_ fun C hC hE => ?_
      · kernel_rfl
      · exact Nat.le_of_ble_eq_true (by kernel_rfl)
      conv => whnf
      repeat' (first | (refine brd_t (by first | assumption | omega) ?_; conv => whnf) | (refine brd_f (by first | assumption | omega) ?_; conv => whnf) | (refine ask (by first | assumption | omega) ?_; conv => whnf) | (refine fit64 (by omega) ?_; conv => whnf) | (refine fit (by simp only [kmin, kmax]; omega) ?_; conv => whnf) | (refine br_t (by assumption) ?_; conv => whnf) | (refine br_f (by assumption) ?_; conv => whnf) | (refine get_of (by assumption) ?_; conv => whnf) | (refine get_map (by assumption) ?_; conv => whnf) | (refine call_eq (f1) hC hasBody_26 ?_ ?_ ?_; kernel_rfl; kernel_rfl; conv => whnf) | (refine callq_eq (f1) hC hasBody_26 ?_ ?_ ?_; kernel_rfl; kernel_rfl; conv => whnf) | (refine call_eq (f2) hC hasBody_26 ?_ ?_ ?_; kernel_rfl; kernel_rfl; conv => whnf) | (refine callq_eq (f2) hC hasBody_26 ?_ ?_ ?_; kernel_rfl; kernel_rfl; conv => whnf) | (refine draw_lex hE ?_ ?_; decide +kernel; conv => whnf) | (refine draw_any hE [⟨0, [(0, none), (1, none), (2, none), (3, none), (4, none), (5, none), (6, none), (7, none)], some 8, [], [[]], []⟩, ⟨0, [(9, none)], none, [], [[]], []⟩] ?_ ?_; decide +kernel; conv => whnf) | (refine brd (fun h => ?_) (fun h => ?_) <;> conv => whnf) | (refine br (fun h => ?_) (fun h => ?_) <;> conv => whnf) | (refine ret_now hE ?_; conv => whnf) | (intro hlen; conv => whnf) | (refine seg_here ?_; conv => whnf) | (refine both ?_ ?_ <;> conv => whnf))
      all_goals exact ⟨rfl, rfl⟩
set_option maxHeartbeats 16000000 in
theorem docboth_good {T1 T2 : List (List Int)} {F1 F2 : List Bool} (m1 : mayOk T1 F1 = true) (m2 : mayOk T2 F2 = true) {X : V} {e : Int} (hX : (∃ (R : List (List Int)) (G : List Bool), X = .agg [.lst (R.map ints), .lst (G.map V.bool)]) ∨ X = .agg [.nils, .nils])
    (h0 : ∀ r, OrdR (bothL T1 F1 T2 F2) r → r = .tup [X, .int .i64 e]) : Fn1 Tryd.prog 9 [autoV T1 F1, autoV T2 F2] (fun r => r = .tup [X, .int .i64 e]) := by
  have f1 := auto_may T1 F1
  have f2 := auto_may T2 F2
  rw [m1] at f1
  rw [m2] at f2
  have t1 := total_of m1
  have t2 := total_of m2
  have w1 := tot_wf m1
  have w2 := tot_wf m2
  obtain ⟨q1, q2, _⟩ := may_parts m1
  obtain ⟨q1', q2', _⟩ := may_parts m2
  have hpr := product_of w1 w2 (by omega) (by omega)
  have hle : (T1.length + 1) * (T2.length + 1) ≤ 41 * 41 := Nat.mul_le_mul (by omega) (by omega)
  have hmr := merged_of (prod_wf w1 w2) (Nat.mul_pos (by omega) (by omega)) (by omega)
  rw [prod_lng m1 m2] at hmr
  have hm : Fn1 Tryd.prog 29 [totV (prodT (T2.length + 1) (totT T1) (totT T2)) (prodF (totF F1) (totF F2))] (fun r => r = .tup [X, .int .i64 e]) := hmr.mono h0
  clear hmr
  rcases hX with ⟨R, G, rfl⟩ | rfl
  all_goals
    refine fn1E (T := Tryd.tt) Tryd.func9 rfl tt_all follows_all ?_ ?_ fun C hC hE => ?_
    · kernel_rfl
    · exact Nat.le_of_ble_eq_true (by kernel_rfl)
    conv => whnf
    repeat' (first | (refine brd_t (by first | assumption | omega) ?_; conv => whnf) | (refine brd_f (by first | assumption | omega) ?_; conv => whnf) | (refine ask (by first | assumption | omega) ?_; conv => whnf) | (refine fit64 (by omega) ?_; conv => whnf) | (refine fit (by simp only [kmin, kmax]; omega) ?_; conv => whnf) | (refine br_t (by assumption) ?_; conv => whnf) | (refine br_f (by assumption) ?_; conv => whnf) | (refine get_of (by assumption) ?_; conv => whnf) | (refine get_map (by assumption) ?_; conv => whnf) | (refine call_eq (f1) hC hasBody_26 ?_ ?_ ?_; kernel_rfl; kernel_rfl; conv => whnf) | (refine callq_eq (f1) hC hasBody_26 ?_ ?_ ?_; kernel_rfl; kernel_rfl; conv => whnf) | (refine call_eq (f2) hC hasBody_26 ?_ ?_ ?_; kernel_rfl; kernel_rfl; conv => whnf) | (refine callq_eq (f2) hC hasBody_26 ?_ ?_ ?_; kernel_rfl; kernel_rfl; conv => whnf) | (refine call_eq (t1) hC hasBody_28 ?_ ?_ ?_; kernel_rfl; kernel_rfl; conv => whnf) | (refine callq_eq (t1) hC hasBody_28 ?_ ?_ ?_; kernel_rfl; kernel_rfl; conv => whnf) | (refine call_eq (t2) hC hasBody_28 ?_ ?_ ?_; kernel_rfl; kernel_rfl; conv => whnf) | (refine callq_eq (t2) hC hasBody_28 ?_ ?_ ?_; kernel_rfl; kernel_rfl; conv => whnf) | (refine call_eq (hpr) hC hasBody_27 ?_ ?_ ?_; kernel_rfl; kernel_rfl; conv => whnf) | (refine callq_eq (hpr) hC hasBody_27 ?_ ?_ ?_; kernel_rfl; kernel_rfl; conv => whnf) | (refine call_eq (hm) hC hasBody_29 ?_ ?_ ?_; kernel_rfl; kernel_rfl; conv => whnf) | (refine callq_eq (hm) hC hasBody_29 ?_ ?_ ?_; kernel_rfl; kernel_rfl; conv => whnf) | (refine draw_lex hE ?_ ?_; decide +kernel; conv => whnf) | (refine draw_any hE [⟨0, [(0, none), (1, none), (2, none), (3, none), (4, none), (5, none), (6, none), (7, none)], some 8, [], [[]], []⟩, ⟨0, [(9, none)], none, [], [[]], []⟩] ?_ ?_; decide +kernel; conv => whnf) | (refine brd (fun h => ?_) (fun h => ?_) <;> conv => whnf) | (refine br (fun h => ?_) (fun h => ?_) <;> conv => whnf) | (refine ret_now hE ?_; conv => whnf) | (intro hlen; conv => whnf) | (refine seg_here ?_; conv => whnf) | (refine both ?_ ?_ <;> conv => whnf))
    all_goals exact ⟨rfl, rfl⟩
set_option maxHeartbeats 16000000 in
theorem same_auto (R : List (List Int)) (G : List Bool) : Fn1 Tryd.prog 10 [autoV R G, autoV R G] (fun r => r = .bool true) := by
  have hRm : (R.map ints).length = R.length := by simp
  have hGm : (G.map V.bool).length = G.length := by simp
  unfold autoV
  refine fn1E (T := Tryd.tt) Tryd.func10 rfl tt_all follows_all ?_ ?_ fun C hC hE => ?_
  · kernel_rfl
  · exact Nat.le_of_ble_eq_true (by kernel_rfl)
  conv => whnf
  repeat' (first | (refine brd_t (by first | assumption | omega) ?_; conv => whnf) | (refine brd_f (by first | assumption | omega) ?_; conv => whnf) | (refine ask (by first | assumption | omega) ?_; conv => whnf) | (refine fit64 (by omega) ?_; conv => whnf) | (refine fit (by simp only [kmin, kmax]; omega) ?_; conv => whnf) | (refine br_t (by assumption) ?_; conv => whnf) | (refine br_f (by assumption) ?_; conv => whnf) | (refine get_of (by assumption) ?_; conv => whnf) | (refine get_map (by assumption) ?_; conv => whnf) | (refine draw_lex hE ?_ ?_; decide +kernel; conv => whnf) | (refine draw_any hE [⟨0, [(0, none), (1, none), (2, none), (3, none), (4, none), (5, none), (6, none), (7, none), (8, none), (9, none), (10, none), (11, none), (12, none)], none, [], [[]], []⟩] ?_ ?_; decide +kernel; conv => whnf) | (refine draw_any hE [⟨0, [(0, none), (1, none), (2, none), (3, none), (4, none), (5, none), (6, none), (7, none), (8, none), (9, none), (10, none), (11, none), (12, none), (13, none), (14, none), (15, none), (16, none)], none, [], [[]], []⟩] ?_ ?_; decide +kernel; conv => whnf) | (refine draw_any hE [⟨0, [(0, none), (1, none), (2, none), (3, none), (4, none), (5, none), (6, none), (7, none), (8, none), (9, none), (10, none)], none, [], [[]], []⟩] ?_ ?_; decide +kernel; conv => whnf) | (refine brd (fun h => ?_) (fun h => ?_) <;> conv => whnf) | (refine br (fun h => ?_) (fun h => ?_) <;> conv => whnf) | (refine ret_now hE ?_; conv => whnf) | (intro hlen; conv => whnf) | (refine seg_here ?_; conv => whnf) | (refine both ?_ ?_ <;> conv => whnf))
  refine loopE (fun i : Nat => ⟨89, [(2, .rp [.lst (R.map ints), .lst (G.map V.bool)]), (3, .rp [.lst (R.map ints), .lst (G.map V.bool)]), (4, .bool false), (26, .int .i64 R.length), (27, .int .i64 i)], [none, none]⟩) (fun i => i ≤ R.length) (fun i => R.length - i) 0 hE ?_ ?_ (Nat.zero_le _) ?_
  · kernel_rfl
  · refine up_freeze 0 (z := 2) (els := [autoV R G]) rfl ⟨⟨trivial, trivial, trivial⟩, trivial⟩ (up_freeze 1 (z := 2) (els := [autoV R G]) rfl ⟨⟨trivial, trivial, trivial⟩, trivial⟩ (at_keep [2, 3, 4, 26, 27] ?_))
    conv => whnf
    rw [hRm]
    rfl
  rintro i hi
  by_cases hlt : i < R.length
  · obtain ⟨row, hrow⟩ : ∃ x, R[i]? = some x := ⟨_, List.getElem?_eq_getElem hlt⟩
    have hrm : (row.map (V.int .i64)).length = row.length := by simp
    have g1 : (R.map ints)[Int.toNat (i : Int)]? = some (ints row) := by rw [Int.toNat_natCast, List.getElem?_map, hrow]; rfl
    conv => whnf
    repeat' (first | (refine brd_t (by first | assumption | omega) ?_; conv => whnf) | (refine brd_f (by first | assumption | omega) ?_; conv => whnf) | (refine ask (by first | assumption | omega) ?_; conv => whnf) | (refine fit64 (by omega) ?_; conv => whnf) | (refine fit (by simp only [kmin, kmax]; omega) ?_; conv => whnf) | (refine br_t (by assumption) ?_; conv => whnf) | (refine br_f (by assumption) ?_; conv => whnf) | (refine get_of (by assumption) ?_; conv => whnf) | (refine get_map (by assumption) ?_; conv => whnf) | (refine get_of g1 ?_; conv => whnf) | (refine draw_lex hE ?_ ?_; decide +kernel; conv => whnf) | (refine draw_any hE [⟨0, [(0, none), (1, none), (2, none), (3, none), (4, none), (5, none), (6, none), (7, none), (8, none), (9, none), (10, none), (11, none), (12, none)], none, [], [[]], []⟩] ?_ ?_; decide +kernel; conv => whnf) | (refine draw_any hE [⟨0, [(0, none), (1, none), (2, none), (3, none), (4, none), (5, none), (6, none), (7, none), (8, none), (9, none), (10, none), (11, none), (12, none), (13, none), (14, none), (15, none), (16, none)], none, [], [[]], []⟩] ?_ ?_; decide +kernel; conv => whnf) | (refine draw_any hE [⟨0, [(0, none), (1, none), (2, none), (3, none), (4, none), (5, none), (6, none), (7, none), (8, none), (9, none), (10, none)], none, [], [[]], []⟩] ?_ ?_; decide +kernel; conv => whnf) | (refine brd (fun h => ?_) (fun h => ?_) <;> conv => whnf) | (refine br (fun h => ?_) (fun h => ?_) <;> conv => whnf) | (refine ret_now hE ?_; conv => whnf) | (intro hlen; conv => whnf) | (refine seg_here ?_; conv => whnf) | (refine both ?_ ?_ <;> conv => whnf))
    refine loopE (fun c : Nat => ⟨89, [(2, .rp [.lst (R.map ints), .lst (G.map V.bool)]), (3, .rp [.lst (R.map ints), .lst (G.map V.bool)]), (4, .bool false), (26, .int .i64 R.length), (27, .int .i64 i), (5, .int .i64 i), (48, .int .i64 row.length), (49, .int .i64 c)], [none, none]⟩) (fun c => c ≤ row.length) (fun c => row.length - c) 0 hE ?_ ?_ (Nat.zero_le _) ?_
    · kernel_rfl
    · refine at_keep [2, 3, 4, 26, 27, 5, 48, 49] ?_
      conv => whnf
      rw [hrm]
      rfl
    rintro c hc
    by_cases hct : c < row.length
    · obtain ⟨x, hx⟩ : ∃ x, row[c]? = some x := ⟨_, List.getElem?_eq_getElem hct⟩
      have g2 : (row.map (V.int .i64))[Int.toNat (c : Int)]? = some (.int .i64 x) := by rw [Int.toNat_natCast, List.getElem?_map, hx]; rfl
      conv => whnf
      repeat' (first | (refine brd_t (by first | assumption | omega) ?_; conv => whnf) | (refine brd_f (by first | assumption | omega) ?_; conv => whnf) | (refine ask (by first | assumption | omega) ?_; conv => whnf) | (refine fit64 (by omega) ?_; conv => whnf) | (refine fit (by simp only [kmin, kmax]; omega) ?_; conv => whnf) | (refine br_t (by assumption) ?_; conv => whnf) | (refine br_f (by assumption) ?_; conv => whnf) | (refine get_of (by assumption) ?_; conv => whnf) | (refine get_map (by assumption) ?_; conv => whnf) | (refine get_of g1 ?_; conv => whnf) | (refine get_of g2 ?_; conv => whnf) | (refine draw_lex hE ?_ ?_; decide +kernel; conv => whnf) | (refine draw_any hE [⟨0, [(0, none), (1, none), (2, none), (3, none), (4, none), (5, none), (6, none), (7, none), (8, none), (9, none), (10, none), (11, none), (12, none)], none, [], [[]], []⟩] ?_ ?_; decide +kernel; conv => whnf) | (refine draw_any hE [⟨0, [(0, none), (1, none), (2, none), (3, none), (4, none), (5, none), (6, none), (7, none), (8, none), (9, none), (10, none), (11, none), (12, none), (13, none), (14, none), (15, none), (16, none)], none, [], [[]], []⟩] ?_ ?_; decide +kernel; conv => whnf) | (refine draw_any hE [⟨0, [(0, none), (1, none), (2, none), (3, none), (4, none), (5, none), (6, none), (7, none), (8, none), (9, none), (10, none)], none, [], [[]], []⟩] ?_ ?_; decide +kernel; conv => whnf) | (refine brd (fun h => ?_) (fun h => ?_) <;> conv => whnf) | (refine br (fun h => ?_) (fun h => ?_) <;> conv => whnf) | (refine ret_now hE ?_; conv => whnf) | (intro hlen; conv => whnf) | (refine seg_here ?_; conv => whnf) | (refine both ?_ ?_ <;> conv => whnf))
      refine next_keep [2, 3, 4, 26, 27, 5, 48, 49] (c + 1) hct (by show row.length - (c + 1) < row.length - c; omega) ?_
      conv => whnf
      rfl
    · obtain rfl : c = row.length := by omega
      conv => whnf
      repeat' (first | (refine brd_t (by first | assumption | omega) ?_; conv => whnf) | (refine brd_f (by first | assumption | omega) ?_; conv => whnf) | (refine ask (by first | assumption | omega) ?_; conv => whnf) | (refine fit64 (by omega) ?_; conv => whnf) | (refine fit (by simp only [kmin, kmax]; omega) ?_; conv => whnf) | (refine br_t (by assumption) ?_; conv => whnf) | (refine br_f (by assumption) ?_; conv => whnf) | (refine get_of (by assumption) ?_; conv => whnf) | (refine get_map (by assumption) ?_; conv => whnf) | (refine draw_lex hE ?_ ?_; decide +kernel; conv => whnf) | (refine draw_any hE [⟨0, [(0, none), (1, none), (2, none), (3, none), (4, none), (5, none), (6, none), (7, none), (8, none), (9, none), (10, none), (11, none), (12, none)], none, [], [[]], []⟩] ?_ ?_; decide +kernel; conv => whnf) | (refine draw_any hE [⟨0, [(0, none), (1, none), (2, none), (3, none), (4, none), (5, none), (6, none), (7, none), (8, none), (9, none), (10, none), (11, none), (12, none), (13, none), (14, none), (15, none), (16, none)], none, [], [[]], []⟩] ?_ ?_; decide +kernel; conv => whnf) | (refine draw_any hE [⟨0, [(0, none), (1, none), (2, none), (3, none), (4, none), (5, none), (6, none), (7, none), (8, none), (9, none), (10, none)], none, [], [[]], []⟩] ?_ ?_; decide +kernel; conv => whnf) | (refine brd (fun h => ?_) (fun h => ?_) <;> conv => whnf) | (refine br (fun h => ?_) (fun h => ?_) <;> conv => whnf) | (refine ret_now hE ?_; conv => whnf) | (intro hlen; conv => whnf) | (refine seg_here ?_; conv => whnf) | (refine both ?_ ?_ <;> conv => whnf))
      refine next_keep [2, 3, 4, 26, 27] (i + 1) hlt (by show R.length - (i + 1) < R.length - i; omega) ?_
      conv => whnf
      rfl
  · obtain rfl : i = R.length := by omega
    conv => whnf
    repeat' (first | (refine brd_t (by first | assumption | omega) ?_; conv => whnf) | (refine brd_f (by first | assumption | omega) ?_; conv => whnf) | (refine ask (by first | assumption | omega) ?_; conv => whnf) | (refine fit64 (by omega) ?_; conv => whnf) | (refine fit (by simp only [kmin, kmax]; omega) ?_; conv => whnf) | (refine br_t (by assumption) ?_; conv => whnf) | (refine br_f (by assumption) ?_; conv => whnf) | (refine get_of (by assumption) ?_; conv => whnf) | (refine get_map (by assumption) ?_; conv => whnf) | (refine draw_lex hE ?_ ?_; decide +kernel; conv => whnf) | (refine draw_any hE [⟨0, [(0, none), (1, none), (2, none), (3, none), (4, none), (5, none), (6, none), (7, none), (8, none), (9, none), (10, none), (11, none), (12, none)], none, [], [[]], []⟩] ?_ ?_; decide +kernel; conv => whnf) | (refine draw_any hE [⟨0, [(0, none), (1, none), (2, none), (3, none), (4, none), (5, none), (6, none), (7, none), (8, none), (9, none), (10, none), (11, none), (12, none), (13, none), (14, none), (15, none), (16, none)], none, [], [[]], []⟩] ?_ ?_; decide +kernel; conv => whnf) | (refine draw_any hE [⟨0, [(0, none), (1, none), (2, none), (3, none), (4, none), (5, none), (6, none), (7, none), (8, none), (9, none), (10, none)], none, [], [[]], []⟩] ?_ ?_; decide +kernel; conv => whnf) | (refine brd (fun h => ?_) (fun h => ?_) <;> conv => whnf) | (refine br (fun h => ?_) (fun h => ?_) <;> conv => whnf) | (refine ret_now hE ?_; conv => whnf) | (intro hlen; conv => whnf) | (refine seg_here ?_; conv => whnf) | (refine both ?_ ?_ <;> conv => whnf))
    refine loopE (fun k : Nat => ⟨89, [(2, .rp [.lst (R.map ints), .lst (G.map V.bool)]), (3, .rp [.lst (R.map ints), .lst (G.map V.bool)]), (4, .bool false), (73, .int .i64 G.length), (74, .int .i64 k)], [none, none]⟩) (fun k => k ≤ G.length) (fun k => G.length - k) 0 hE ?_ ?_ (Nat.zero_le _) ?_
    · kernel_rfl
    · refine at_keep [2, 3, 4, 73, 74] ?_
      conv => whnf
      rw [hGm]
      rfl
    rintro k hk
    by_cases hkt : k < G.length
    · obtain ⟨b, hb⟩ : ∃ x, G[k]? = some x := ⟨_, List.getElem?_eq_getElem hkt⟩
      have g3 : (G.map V.bool)[Int.toNat (k : Int)]? = some (.bool b) := by rw [Int.toNat_natCast, List.getElem?_map, hb]; rfl
      cases b
      all_goals
        conv => whnf
        repeat' (first | (refine brd_t (by first | assumption | omega) ?_; conv => whnf) | (refine brd_f (by first | assumption | omega) ?_; conv => whnf) | (refine ask (by first | assumption | omega) ?_; conv => whnf) | (refine fit64 (by omega) ?_; conv => whnf) | (refine fit (by simp only [kmin, kmax]; omega) ?_; conv => whnf) | (refine br_t (by assumption) ?_; conv => whnf) | (refine br_f (by assumption) ?_; conv => whnf) | (refine get_of (by assumption) ?_; conv => whnf) | (refine get_map (by assumption) ?_; conv => whnf) | (refine get_of g3 ?_; conv => whnf) | (refine draw_lex hE ?_ ?_; decide +kernel; conv => whnf) | (refine draw_any hE [⟨0, [(0, none), (1, none), (2, none), (3, none), (4, none), (5, none), (6, none), (7, none), (8, none), (9, none), (10, none), (11, none), (12, none)], none, [], [[]], []⟩] ?_ ?_; decide +kernel; conv => whnf) | (refine draw_any hE [⟨0, [(0, none), (1, none), (2, none), (3, none), (4, none), (5, none), (6, none), (7, none), (8, none), (9, none), (10, none), (11, none), (12, none), (13, none), (14, none), (15, none), (16, none)], none, [], [[]], []⟩] ?_ ?_; decide +kernel; conv => whnf) | (refine draw_any hE [⟨0, [(0, none), (1, none), (2, none), (3, none), (4, none), (5, none), (6, none), (7, none), (8, none), (9, none), (10, none)], none, [], [[]], []⟩] ?_ ?_; decide +kernel; conv => whnf) | (refine brd (fun h => ?_) (fun h => ?_) <;> conv => whnf) | (refine br (fun h => ?_) (fun h => ?_) <;> conv => whnf) | (refine ret_now hE ?_; conv => whnf) | (intro hlen; conv => whnf) | (refine seg_here ?_; conv => whnf) | (refine both ?_ ?_ <;> conv => whnf))
        refine next_keep [2, 3, 4, 73, 74] (k + 1) hkt (by show G.length - (k + 1) < G.length - k; omega) ?_
        conv => whnf
        rfl
    · obtain rfl : k = G.length := by omega
      conv => whnf
      repeat' (first | (refine brd_t (by first | assumption | omega) ?_; conv => whnf) | (refine brd_f (by first | assumption | omega) ?_; conv => whnf) | (refine ask (by first | assumption | omega) ?_; conv => whnf) | (refine fit64 (by omega) ?_; conv => whnf) | (refine fit (by simp only [kmin, kmax]; omega) ?_; conv => whnf) | (refine br_t (by assumption) ?_; conv => whnf) | (refine br_f (by assumption) ?_; conv => whnf) | (refine get_of (by assumption) ?_; conv => whnf) | (refine get_map (by assumption) ?_; conv => whnf) | (refine draw_lex hE ?_ ?_; decide +kernel; conv => whnf) | (refine draw_any hE [⟨0, [(0, none), (1, none), (2, none), (3, none), (4, none), (5, none), (6, none), (7, none), (8, none), (9, none), (10, none), (11, none), (12, none)], none, [], [[]], []⟩] ?_ ?_; decide +kernel; conv => whnf) | (refine draw_any hE [⟨0, [(0, none), (1, none), (2, none), (3, none), (4, none), (5, none), (6, none), (7, none), (8, none), (9, none), (10, none), (11, none), (12, none), (13, none), (14, none), (15, none), (16, none)], none, [], [[]], []⟩] ?_ ?_; decide +kernel; conv => whnf) | (refine draw_any hE [⟨0, [(0, none), (1, none), (2, none), (3, none), (4, none), (5, none), (6, none), (7, none), (8, none), (9, none), (10, none)], none, [], [[]], []⟩] ?_ ?_; decide +kernel; conv => whnf) | (refine brd (fun h => ?_) (fun h => ?_) <;> conv => whnf) | (refine br (fun h => ?_) (fun h => ?_) <;> conv => whnf) | (refine ret_now hE ?_; conv => whnf) | (intro hlen; conv => whnf) | (refine seg_here ?_; conv => whnf) | (refine both ?_ ?_ <;> conv => whnf))
      exact ⟨rfl, rfl⟩
theorem same_nils : Fn1 Tryd.prog 10 [.agg [.nils, .nils], .agg [.nils, .nils]] (fun r => r = .bool true) := by
  refine fn1E (T := Tryd.tt) Tryd.func10 rfl tt_all follows_all ?_ ?_ fun C hC hE => ?_
  · kernel_rfl
  · exact Nat.le_of_ble_eq_true (by kernel_rfl)
  conv => whnf
  repeat' (first | (refine brd_t (by first | assumption | omega) ?_; conv => whnf) | (refine brd_f (by first | assumption | omega) ?_; conv => whnf) | (refine ask (by first | assumption | omega) ?_; conv => whnf) | (refine fit64 (by omega) ?_; conv => whnf) | (refine fit (by simp only [kmin, kmax]; omega) ?_; conv => whnf) | (refine br_t (by assumption) ?_; conv => whnf) | (refine br_f (by assumption) ?_; conv => whnf) | (refine get_of (by assumption) ?_; conv => whnf) | (refine get_map (by assumption) ?_; conv => whnf) | (refine draw_lex hE ?_ ?_; decide +kernel; conv => whnf) | (refine draw_any hE [⟨0, [(0, none), (1, none), (2, none), (3, none), (4, none), (5, none), (6, none), (7, none), (8, none), (9, none), (10, none), (11, none), (12, none)], none, [], [[]], []⟩] ?_ ?_; decide +kernel; conv => whnf) | (refine draw_any hE [⟨0, [(0, none), (1, none), (2, none), (3, none), (4, none), (5, none), (6, none), (7, none), (8, none), (9, none), (10, none), (11, none), (12, none), (13, none), (14, none), (15, none), (16, none)], none, [], [[]], []⟩] ?_ ?_; decide +kernel; conv => whnf) | (refine draw_any hE [⟨0, [(0, none), (1, none), (2, none), (3, none), (4, none), (5, none), (6, none), (7, none), (8, none), (9, none), (10, none)], none, [], [[]], []⟩] ?_ ?_; decide +kernel; conv => whnf) | (refine brd (fun h => ?_) (fun h => ?_) <;> conv => whnf) | (refine br (fun h => ?_) (fun h => ?_) <;> conv => whnf) | (refine ret_now hE ?_; conv => whnf) | (intro hlen; conv => whnf) | (refine seg_here ?_; conv => whnf) | (refine both ?_ ?_ <;> conv => whnf))
  refine loopE (fun _ : Unit => ⟨89, [(2, .rp [.nils, .nils]), (3, .rp [.nils, .nils]), (4, .bool false), (26, .int .i64 0), (27, .int .i64 0)], [none, none]⟩) (fun _ => True) (fun _ => 0) () hE ?_ ?_ trivial ?_
  · kernel_rfl
  · refine up_freeze 0 (z := 2) (els := [.agg [.nils, .nils]]) rfl ⟨⟨trivial, trivial, trivial⟩, trivial⟩ (up_freeze 1 (z := 2) (els := [.agg [.nils, .nils]]) rfl ⟨⟨trivial, trivial, trivial⟩, trivial⟩ (at_keep [2, 3, 4, 26, 27] ?_))
    conv => whnf
    rfl
  rintro ⟨⟩ _
  conv => whnf
  repeat' (first | (refine brd_t (by first | assumption | omega) ?_; conv => whnf) | (refine brd_f (by first | assumption | omega) ?_; conv => whnf) | (refine ask (by first | assumption | omega) ?_; conv => whnf) | (refine fit64 (by omega) ?_; conv => whnf) | (refine fit (by simp only [kmin, kmax]; omega) ?_; conv => whnf) | (refine br_t (by assumption) ?_; conv => whnf) | (refine br_f (by assumption) ?_; conv => whnf) | (refine get_of (by assumption) ?_; conv => whnf) | (refine get_map (by assumption) ?_; conv => whnf) | (refine draw_lex hE ?_ ?_; decide +kernel; conv => whnf) | (refine draw_any hE [⟨0, [(0, none), (1, none), (2, none), (3, none), (4, none), (5, none), (6, none), (7, none), (8, none), (9, none), (10, none), (11, none), (12, none)], none, [], [[]], []⟩] ?_ ?_; decide +kernel; conv => whnf) | (refine draw_any hE [⟨0, [(0, none), (1, none), (2, none), (3, none), (4, none), (5, none), (6, none), (7, none), (8, none), (9, none), (10, none), (11, none), (12, none), (13, none), (14, none), (15, none), (16, none)], none, [], [[]], []⟩] ?_ ?_; decide +kernel; conv => whnf) | (refine draw_any hE [⟨0, [(0, none), (1, none), (2, none), (3, none), (4, none), (5, none), (6, none), (7, none), (8, none), (9, none), (10, none)], none, [], [[]], []⟩] ?_ ?_; decide +kernel; conv => whnf) | (refine brd (fun h => ?_) (fun h => ?_) <;> conv => whnf) | (refine br (fun h => ?_) (fun h => ?_) <;> conv => whnf) | (refine ret_now hE ?_; conv => whnf) | (intro hlen; conv => whnf) | (refine seg_here ?_; conv => whnf) | (refine both ?_ ?_ <;> conv => whnf))
  refine loopE (fun _ : Unit => ⟨89, [(2, .rp [.nils, .nils]), (3, .rp [.nils, .nils]), (4, .bool false), (73, .int .i64 0), (74, .int .i64 0)], [none, none]⟩) (fun _ => True) (fun _ => 0) () hE ?_ ?_ trivial ?_
  · kernel_rfl
  · refine at_keep [2, 3, 4, 73, 74] ?_
    conv => whnf
  rintro ⟨⟩ _
  conv => whnf
  repeat' (first | (refine brd_t (by first | assumption | omega) ?_; conv => whnf) | (refine brd_f (by first | assumption | omega) ?_; conv => whnf) | (refine ask (by first | assumption | omega) ?_; conv => whnf) | (refine fit64 (by omega) ?_; conv => whnf) | (refine fit (by simp only [kmin, kmax]; omega) ?_; conv => whnf) | (refine br_t (by assumption) ?_; conv => whnf) | (refine br_f (by assumption) ?_; conv => whnf) | (refine get_of (by assumption) ?_; conv => whnf) | (refine get_map (by assumption) ?_; conv => whnf) | (refine draw_lex hE ?_ ?_; decide +kernel; conv => whnf) | (refine draw_any hE [⟨0, [(0, none), (1, none), (2, none), (3, none), (4, none), (5, none), (6, none), (7, none), (8, none), (9, none), (10, none), (11, none), (12, none)], none, [], [[]], []⟩] ?_ ?_; decide +kernel; conv => whnf) | (refine draw_any hE [⟨0, [(0, none), (1, none), (2, none), (3, none), (4, none), (5, none), (6, none), (7, none), (8, none), (9, none), (10, none), (11, none), (12, none), (13, none), (14, none), (15, none), (16, none)], none, [], [[]], []⟩] ?_ ?_; decide +kernel; conv => whnf) | (refine draw_any hE [⟨0, [(0, none), (1, none), (2, none), (3, none), (4, none), (5, none), (6, none), (7, none), (8, none), (9, none), (10, none)], none, [], [[]], []⟩] ?_ ?_; decide +kernel; conv => whnf) | (refine brd (fun h => ?_) (fun h => ?_) <;> conv => whnf) | (refine br (fun h => ?_) (fun h => ?_) <;> conv => whnf) | (refine ret_now hE ?_; conv => whnf) | (intro hlen; conv => whnf) | (refine seg_here ?_; conv => whnf) | (refine both ?_ ?_ <;> conv => whnf))
  exact ⟨rfl, rfl⟩
theorem fn1G_mono {P : Program} {G : World → Prop} {f : FuncId} {args : List V} {R R' : V → Prop} (h : Fn1G P G f args R) (hr : ∀ r, R r → R' r) : Fn1G P G f args R' :=
  fun w I vs h0 h1 h2 h3 => (h w I vs h0 h1 h2 h3).mono fun _ _ ⟨v, r, I', a, b, c⟩ => ⟨v, r, I', a, hr r b, c⟩
set_option maxHeartbeats 8000000 in
theorem autoBoths_law (T1 T2 : List (List Int)) (F1 F2 : List Bool) : Fn1G Tryd.prog GT 4 [autoV T1 F1, autoV T2 F2] (fun r => r = .bool true) := by
  obtain ⟨X, e, ha, hr, hs⟩ : ∃ X e, Fn1G Tryd.prog GT 8 [autoV T1 F1, autoV T2 F2] (fun r => r = .tup [X, .int .i64 e]) ∧ Fn1 Tryd.prog 9 [autoV T1 F1, autoV T2 F2] (fun r => r = .tup [X, .int .i64 e]) ∧ ((∃ (R : List (List Int)) (G : List Bool), X = .agg [.lst (R.map ints), .lst (G.map V.bool)]) ∨ X = .agg [.nils, .nils]) := by
    by_cases h : mayOk T1 F1 = true ∧ mayOk T2 F2 = true
    · obtain ⟨r0, h0, hsh⟩ := ord_det (bothL T1 F1 T2 F2)
      rcases hsh with ⟨R, G, e, rfl⟩ | ⟨e, rfl⟩
      · exact ⟨_, e, fn1G_mono (both_good h.1 h.2) h0, docboth_good h.1 h.2 (.inl ⟨R, G, rfl⟩) h0, .inl ⟨R, G, rfl⟩⟩
      · exact ⟨_, e, fn1G_mono (both_good h.1 h.2) h0, docboth_good h.1 h.2 (.inr rfl) h0, .inr rfl⟩
    · exact ⟨_, 4, (both_bad h).g, docboth_bad h, .inr rfl⟩
  rcases hs with ⟨R, G, rfl⟩ | rfl
  · have hsa := same_auto R G
    unfold autoV at hsa
    refine fn1GE (T := Tryd.tt) Tryd.func4 rfl tt_all follows_all ?_ ?_ fun C hC hW hG hE => ?_
    · kernel_rfl
    · exact Nat.le_of_ble_eq_true (by kernel_rfl)
    conv => whnf
    repeat' (first | (refine brd_t (by first | assumption | omega) ?_; conv => whnf) | (refine brd_f (by first | assumption | omega) ?_; conv => whnf) | (refine ask (by first | assumption | omega) ?_; conv => whnf) | (refine fit64 (by omega) ?_; conv => whnf) | (refine fit (by simp only [kmin, kmax]; omega) ?_; conv => whnf) | (refine br_t (by assumption) ?_; conv => whnf) | (refine br_f (by assumption) ?_; conv => whnf) | (refine get_of (by assumption) ?_; conv => whnf) | (refine get_map (by assumption) ?_; conv => whnf) | (refine callc_eq (ha.c hC hW kept_gt hG) hC hasBody_8 rfl ?_ ?_ ?_; kernel_rfl; kernel_rfl; conv => whnf) | (refine callcq_eq (ha.c hC hW kept_gt hG) hC hasBody_8 rfl ?_ ?_ ?_; kernel_rfl; kernel_rfl; conv => whnf) | (refine call_eq (hr) hC hasBody_9 ?_ ?_ ?_; kernel_rfl; kernel_rfl; conv => whnf) | (refine callq_eq (hr) hC hasBody_9 ?_ ?_ ?_; kernel_rfl; kernel_rfl; conv => whnf) | (refine call_eq (hsa) hC hasBody_10 ?_ ?_ ?_; kernel_rfl; kernel_rfl; conv => whnf) | (refine callq_eq (hsa) hC hasBody_10 ?_ ?_ ?_; kernel_rfl; kernel_rfl; conv => whnf) | (refine draw_lex hE ?_ ?_; decide +kernel; conv => whnf) | (refine brd (fun h => ?_) (fun h => ?_) <;> conv => whnf) | (refine br (fun h => ?_) (fun h => ?_) <;> conv => whnf) | (refine ret_now hE ?_; conv => whnf) | (intro hlen; conv => whnf) | (refine seg_here ?_; conv => whnf) | (refine both ?_ ?_ <;> conv => whnf))
    all_goals exact ⟨rfl, rfl⟩
  · have hsa := same_nils
    refine fn1GE (T := Tryd.tt) Tryd.func4 rfl tt_all follows_all ?_ ?_ fun C hC hW hG hE => ?_
    · kernel_rfl
    · exact Nat.le_of_ble_eq_true (by kernel_rfl)
    conv => whnf
    repeat' (first | (refine brd_t (by first | assumption | omega) ?_; conv => whnf) | (refine brd_f (by first | assumption | omega) ?_; conv => whnf) | (refine ask (by first | assumption | omega) ?_; conv => whnf) | (refine fit64 (by omega) ?_; conv => whnf) | (refine fit (by simp only [kmin, kmax]; omega) ?_; conv => whnf) | (refine br_t (by assumption) ?_; conv => whnf) | (refine br_f (by assumption) ?_; conv => whnf) | (refine get_of (by assumption) ?_; conv => whnf) | (refine get_map (by assumption) ?_; conv => whnf) | (refine callc_eq (ha.c hC hW kept_gt hG) hC hasBody_8 rfl ?_ ?_ ?_; kernel_rfl; kernel_rfl; conv => whnf) | (refine callcq_eq (ha.c hC hW kept_gt hG) hC hasBody_8 rfl ?_ ?_ ?_; kernel_rfl; kernel_rfl; conv => whnf) | (refine call_eq (hr) hC hasBody_9 ?_ ?_ ?_; kernel_rfl; kernel_rfl; conv => whnf) | (refine callq_eq (hr) hC hasBody_9 ?_ ?_ ?_; kernel_rfl; kernel_rfl; conv => whnf) | (refine call_eq (hsa) hC hasBody_10 ?_ ?_ ?_; kernel_rfl; kernel_rfl; conv => whnf) | (refine callq_eq (hsa) hC hasBody_10 ?_ ?_ ?_; kernel_rfl; kernel_rfl; conv => whnf) | (refine draw_lex hE ?_ ?_; decide +kernel; conv => whnf) | (refine brd (fun h => ?_) (fun h => ?_) <;> conv => whnf) | (refine br (fun h => ?_) (fun h => ?_) <;> conv => whnf) | (refine ret_now hE ?_; conv => whnf) | (intro hlen; conv => whnf) | (refine seg_here ?_; conv => whnf) | (refine both ?_ ?_ <;> conv => whnf))
    all_goals exact ⟨rfl, rfl⟩
end Go.Proofs.YtmjglpdfkkmcoaaDoor
