/- Two machines side by side: final, step and Same's test, walked. No conditions. -/
import Derived.Test.YtmjglpdfkkmcoaaSmMap
import Derived.Test.YtmjglpdfkkmcoaaMay
set_option linter.unusedSimpArgs false
set_option linter.unusedVariables false
set_option maxRecDepth 100000
namespace Go.Proofs.Ytmjglpdfkkmcoaa
open Go.RowKit

/-- A state of a machine of n states, or none. -/
def stOk (n : Nat) (x : Int) : Prop := -1 ≤ x ∧ x < n
theorem may_parts {T : List (List Int)} {F : List Bool} (h : mayOk T F = true) : 1 ≤ T.length ∧ T.length ≤ 40 ∧ F.length = T.length ∧ ∀ r ∈ T, r.length = 8 ∧ ∀ x ∈ r, stOk T.length x := by
  simp [mayOk] at h
  refine ⟨h.1.1.1, h.1.1.2, h.1.2, fun r hr => ?_⟩
  have := h.2 r hr
  unfold badRow at this
  simp at this
  refine ⟨by omega, fun x hx => ?_⟩
  have := this.2 x hx
  simp [badState] at this
  exact ⟨by omega, by omega⟩
theorem may_row {T : List (List Int)} {F : List Bool} (h : mayOk T F = true) {x : Int} (hx : stOk T.length x) (h0 : 0 ≤ x) {c : Nat} (hc : c < 8) : ∃ row to, T[x.toNat]? = some row ∧ row.length = 8 ∧ row[c]? = some to ∧ stOk T.length to ∧ stepI T x c = to := by
  obtain ⟨_, _, _, hr⟩ := may_parts h
  obtain ⟨h1, h2⟩ := hx
  obtain ⟨row, hrow⟩ : ∃ y, T[x.toNat]? = some y := ⟨_, List.getElem?_eq_getElem (by omega)⟩
  obtain ⟨h8, hs⟩ := hr row (List.mem_of_getElem? hrow)
  obtain ⟨to, hto⟩ : ∃ y, row[c]? = some y := ⟨_, List.getElem?_eq_getElem (by omega)⟩
  exact ⟨row, to, hrow, h8, hto, hs to (List.mem_of_getElem? hto), by simp [stepI, h0, hrow, hto]⟩
theorem step_ok {T : List (List Int)} {F : List Bool} (h : mayOk T F = true) {x : Int} (hx : stOk T.length x) {c : Nat} (hc : c < 8) : stOk T.length (stepI T x c) := by
  by_cases h0 : 0 ≤ x
  · obtain ⟨_, _, _, _, _, hs, e⟩ := may_row h hx h0 hc
    rw [e]; exact hs
  · unfold stepI
    rw [if_neg h0]
    exact ⟨by omega, by omega⟩
set_option maxHeartbeats 4000000 in
theorem final_prog {T : List (List Int)} {F : List Bool} (h : mayOk T F = true) {x : Int} (hx : stOk T.length x) : Fn1 Try.prog 10 [autoV T F, .int .i64 x] (fun r => r = .bool (finI F x)) := by
  obtain ⟨h1, h40, hF, _⟩ := may_parts h
  obtain ⟨hx1, hx2⟩ := id hx
  have hFm : (F.map V.bool).length = F.length := by simp
  by_cases h0 : 0 ≤ x
  · obtain ⟨b, hb⟩ : ∃ y, F[x.toNat]? = some y := ⟨_, List.getElem?_eq_getElem (by omega)⟩
    have e : finI F x = b := by simp [finI, h0, hb]
    rw [e]
    unfold autoV
    refine fn1E (T := Try.tt) Try.func10 rfl tt_all follows_all ?_ ?_ fun C hC hE => ?_
    · kernel_rfl
    · exact Nat.le_of_ble_eq_true (by kernel_rfl)
    conv => whnf
    repeat' (first | (refine brd_t (by first | assumption | omega) ?_; conv => whnf) | (refine brd_f (by first | assumption | omega) ?_; conv => whnf) | (refine ask (by first | assumption | omega) ?_; conv => whnf) | (refine fit64 (by omega) ?_; conv => whnf) | (refine fit (by simp only [kmin, kmax]; omega) ?_; conv => whnf) | (refine br_t (by assumption) ?_; conv => whnf) | (refine br_f (by assumption) ?_; conv => whnf) | (refine get_of (by assumption) ?_; conv => whnf) | (refine get_map (by assumption) ?_; conv => whnf) | (refine draw_lex hE ?_ ?_; decide +kernel; conv => whnf) | (refine brd (fun h => ?_) (fun h => ?_) <;> conv => whnf) | (refine br (fun h => ?_) (fun h => ?_) <;> conv => whnf) | (refine ret_now hE ?_; conv => whnf) | (intro hlen; conv => whnf) | (refine seg_here ?_; conv => whnf) | (refine both ?_ ?_ <;> conv => whnf))
    all_goals exact ⟨rfl, by simp_all⟩
  · have e : finI F x = false := by simp [finI, h0]
    rw [e]
    unfold autoV
    refine fn1E (T := Try.tt) Try.func10 rfl tt_all follows_all ?_ ?_ fun C hC hE => ?_
    · kernel_rfl
    · exact Nat.le_of_ble_eq_true (by kernel_rfl)
    conv => whnf
    repeat' (first | (refine brd_t (by first | assumption | omega) ?_; conv => whnf) | (refine brd_f (by first | assumption | omega) ?_; conv => whnf) | (refine ask (by first | assumption | omega) ?_; conv => whnf) | (refine fit64 (by omega) ?_; conv => whnf) | (refine fit (by simp only [kmin, kmax]; omega) ?_; conv => whnf) | (refine br_t (by assumption) ?_; conv => whnf) | (refine br_f (by assumption) ?_; conv => whnf) | (refine get_of (by assumption) ?_; conv => whnf) | (refine get_map (by assumption) ?_; conv => whnf) | (refine draw_lex hE ?_ ?_; decide +kernel; conv => whnf) | (refine brd (fun h => ?_) (fun h => ?_) <;> conv => whnf) | (refine br (fun h => ?_) (fun h => ?_) <;> conv => whnf) | (refine ret_now hE ?_; conv => whnf) | (intro hlen; conv => whnf) | (refine seg_here ?_; conv => whnf) | (refine both ?_ ?_ <;> conv => whnf))
    all_goals exact ⟨rfl, rfl⟩
set_option maxHeartbeats 4000000 in
theorem step_prog {T1 T2 : List (List Int)} {F1 F2 : List Bool} (h1 : mayOk T1 F1 = true) (h2 : mayOk T2 F2 = true) {x y : Int} (hx : stOk T1.length x) (hy : stOk T2.length y) {c : Nat} (hc : c < 8) :
    Fn1 Try.prog 18 [pairA (x, y), autoV T1 F1, autoV T2 F2, .int .i64 c] (fun r => r = pairA (stepI T1 x c, stepI T2 y c)) := by
  have hm1 : (T1.map ints).length = T1.length := by simp
  have hm2 : (T2.map ints).length = T2.length := by simp
  unfold pairA autoV
  by_cases hx0 : 0 ≤ x
  · obtain ⟨r1, t1, hr1, h81, ht1, _, e1⟩ := may_row h1 hx hx0 hc
    have hl1 : (r1.map (V.int .i64)).length = r1.length := by simp
    obtain ⟨hxa, hxb⟩ := hx
    rw [e1]
    by_cases hy0 : 0 ≤ y
    · obtain ⟨r2, t2, hr2, h82, ht2, _, e2⟩ := may_row h2 hy hy0 hc
      have hl2 : (r2.map (V.int .i64)).length = r2.length := by simp
      obtain ⟨hya, hyb⟩ := hy
      rw [e2]
      refine fn1E (T := Try.tt) Try.func18 rfl tt_all follows_all ?_ ?_ fun C hC hE => ?_
      · kernel_rfl
      · exact Nat.le_of_ble_eq_true (by kernel_rfl)
      conv => whnf
      repeat' (first | (refine brd_t (by first | assumption | omega) ?_; conv => whnf) | (refine brd_f (by first | assumption | omega) ?_; conv => whnf) | (refine ask (by first | assumption | omega) ?_; conv => whnf) | (refine fit64 (by omega) ?_; conv => whnf) | (refine fit (by simp only [kmin, kmax]; omega) ?_; conv => whnf) | (refine br_t (by assumption) ?_; conv => whnf) | (refine br_f (by assumption) ?_; conv => whnf) | (refine get_of (by assumption) ?_; conv => whnf) | (refine get_map (by assumption) ?_; conv => whnf) | (refine draw_lex hE ?_ ?_; decide +kernel; conv => whnf) | (refine brd (fun h => ?_) (fun h => ?_) <;> conv => whnf) | (refine br (fun h => ?_) (fun h => ?_) <;> conv => whnf) | (refine ret_now hE ?_; conv => whnf) | (intro hlen; conv => whnf) | (refine seg_here ?_; conv => whnf) | (refine both ?_ ?_ <;> conv => whnf))
      all_goals exact ⟨rfl, rfl⟩
    · have e2 : stepI T2 y c = -1 := by simp [stepI, hy0]
      rw [e2]
      refine fn1E (T := Try.tt) Try.func18 rfl tt_all follows_all ?_ ?_ fun C hC hE => ?_
      · kernel_rfl
      · exact Nat.le_of_ble_eq_true (by kernel_rfl)
      conv => whnf
      repeat' (first | (refine brd_t (by first | assumption | omega) ?_; conv => whnf) | (refine brd_f (by first | assumption | omega) ?_; conv => whnf) | (refine ask (by first | assumption | omega) ?_; conv => whnf) | (refine fit64 (by omega) ?_; conv => whnf) | (refine fit (by simp only [kmin, kmax]; omega) ?_; conv => whnf) | (refine br_t (by assumption) ?_; conv => whnf) | (refine br_f (by assumption) ?_; conv => whnf) | (refine get_of (by assumption) ?_; conv => whnf) | (refine get_map (by assumption) ?_; conv => whnf) | (refine draw_lex hE ?_ ?_; decide +kernel; conv => whnf) | (refine brd (fun h => ?_) (fun h => ?_) <;> conv => whnf) | (refine br (fun h => ?_) (fun h => ?_) <;> conv => whnf) | (refine ret_now hE ?_; conv => whnf) | (intro hlen; conv => whnf) | (refine seg_here ?_; conv => whnf) | (refine both ?_ ?_ <;> conv => whnf))
      all_goals exact ⟨rfl, rfl⟩
  · have e1 : stepI T1 x c = -1 := by simp [stepI, hx0]
    rw [e1]
    by_cases hy0 : 0 ≤ y
    · obtain ⟨r2, t2, hr2, h82, ht2, _, e2⟩ := may_row h2 hy hy0 hc
      have hl2 : (r2.map (V.int .i64)).length = r2.length := by simp
      obtain ⟨hya, hyb⟩ := hy
      rw [e2]
      refine fn1E (T := Try.tt) Try.func18 rfl tt_all follows_all ?_ ?_ fun C hC hE => ?_
      · kernel_rfl
      · exact Nat.le_of_ble_eq_true (by kernel_rfl)
      conv => whnf
      repeat' (first | (refine brd_t (by first | assumption | omega) ?_; conv => whnf) | (refine brd_f (by first | assumption | omega) ?_; conv => whnf) | (refine ask (by first | assumption | omega) ?_; conv => whnf) | (refine fit64 (by omega) ?_; conv => whnf) | (refine fit (by simp only [kmin, kmax]; omega) ?_; conv => whnf) | (refine br_t (by assumption) ?_; conv => whnf) | (refine br_f (by assumption) ?_; conv => whnf) | (refine get_of (by assumption) ?_; conv => whnf) | (refine get_map (by assumption) ?_; conv => whnf) | (refine draw_lex hE ?_ ?_; decide +kernel; conv => whnf) | (refine brd (fun h => ?_) (fun h => ?_) <;> conv => whnf) | (refine br (fun h => ?_) (fun h => ?_) <;> conv => whnf) | (refine ret_now hE ?_; conv => whnf) | (intro hlen; conv => whnf) | (refine seg_here ?_; conv => whnf) | (refine both ?_ ?_ <;> conv => whnf))
      all_goals exact ⟨rfl, rfl⟩
    · have e2 : stepI T2 y c = -1 := by simp [stepI, hy0]
      rw [e2]
      refine fn1E (T := Try.tt) Try.func18 rfl tt_all follows_all ?_ ?_ fun C hC hE => ?_
      · kernel_rfl
      · exact Nat.le_of_ble_eq_true (by kernel_rfl)
      conv => whnf
      repeat' (first | (refine brd_t (by first | assumption | omega) ?_; conv => whnf) | (refine brd_f (by first | assumption | omega) ?_; conv => whnf) | (refine ask (by first | assumption | omega) ?_; conv => whnf) | (refine fit64 (by omega) ?_; conv => whnf) | (refine fit (by simp only [kmin, kmax]; omega) ?_; conv => whnf) | (refine br_t (by assumption) ?_; conv => whnf) | (refine br_f (by assumption) ?_; conv => whnf) | (refine get_of (by assumption) ?_; conv => whnf) | (refine get_map (by assumption) ?_; conv => whnf) | (refine draw_lex hE ?_ ?_; decide +kernel; conv => whnf) | (refine brd (fun h => ?_) (fun h => ?_) <;> conv => whnf) | (refine br (fun h => ?_) (fun h => ?_) <;> conv => whnf) | (refine ret_now hE ?_; conv => whnf) | (intro hlen; conv => whnf) | (refine seg_here ?_; conv => whnf) | (refine both ?_ ?_ <;> conv => whnf))
      all_goals exact ⟨rfl, rfl⟩
set_option maxHeartbeats 4000000 in
theorem same1_prog {T1 T2 : List (List Int)} {F1 F2 : List Bool} (h1 : mayOk T1 F1 = true) (h2 : mayOk T2 F2 = true) {p : Int × Int} (hx : stOk T1.length p.1) (hy : stOk T2.length p.2) :
    Fn1 Try.prog 9 [pairA p, .rp [.lst (T1.map ints), .lst (F1.map V.bool)], .rp [.lst (T2.map ints), .lst (F2.map V.bool)]] (fun r => r = .bool (finI F1 p.1 != finI F2 p.2)) := by
  have f1 := final_prog h1 hx
  have f2 := final_prog h2 hy
  obtain ⟨b1, e1⟩ : ∃ b, finI F1 p.1 = b := ⟨_, rfl⟩
  obtain ⟨b2, e2⟩ : ∃ b, finI F2 p.2 = b := ⟨_, rfl⟩
  rw [e1] at f1 ⊢
  rw [e2] at f2 ⊢
  cases b1 <;> cases b2
  all_goals
    refine fn1E (T := Try.tt) Try.func9 rfl tt_all follows_all ?_ ?_ fun C hC hE => ?_
    · kernel_rfl
    · exact Nat.le_of_ble_eq_true (by kernel_rfl)
    conv => whnf
    repeat' (first | (refine brd_t (by first | assumption | omega) ?_; conv => whnf) | (refine brd_f (by first | assumption | omega) ?_; conv => whnf) | (refine ask (by first | assumption | omega) ?_; conv => whnf) | (refine fit64 (by omega) ?_; conv => whnf) | (refine fit (by simp only [kmin, kmax]; omega) ?_; conv => whnf) | (refine br_t (by assumption) ?_; conv => whnf) | (refine br_f (by assumption) ?_; conv => whnf) | (refine get_of (by assumption) ?_; conv => whnf) | (refine get_map (by assumption) ?_; conv => whnf) | (refine call_eq (f1) hC hasBody_10 ?_ ?_ ?_; kernel_rfl; kernel_rfl; conv => whnf) | (refine callq_eq (f1) hC hasBody_10 ?_ ?_ ?_; kernel_rfl; kernel_rfl; conv => whnf) | (refine call_eq (f2) hC hasBody_10 ?_ ?_ ?_; kernel_rfl; kernel_rfl; conv => whnf) | (refine callq_eq (f2) hC hasBody_10 ?_ ?_ ?_; kernel_rfl; kernel_rfl; conv => whnf) | (refine draw_lex hE ?_ ?_; decide +kernel; conv => whnf) | (refine draw_any hE [⟨0, [(0, none), (1, none), (2, none), (3, none), (4, none), (5, none), (6, none), (7, none), (8, none), (9, none)], none, [], [[]]⟩] ?_ ?_; decide +kernel; conv => whnf) | (refine brd (fun h => ?_) (fun h => ?_) <;> conv => whnf) | (refine br (fun h => ?_) (fun h => ?_) <;> conv => whnf) | (refine ret_now hE ?_; conv => whnf) | (intro hlen; conv => whnf) | (refine seg_here ?_; conv => whnf) | (refine both ?_ ?_ <;> conv => whnf))
    all_goals exact ⟨rfl, rfl⟩
theorem indexFunc_19 (l : List (Int × Int)) (h : FuncId) (caps : List V) (p : (Int × Int) → Bool) (hb : hasBody Try.prog h = true) (hc : nrB caps = true) (hp : ∀ a ∈ l, Fn1 Try.prog h (pairA a :: caps) (fun r => r = .bool (p a))) :
    Fn1 Try.prog 19 [.lst (l.map pairA), .fn h caps] (fun r => r = .int .i64 (idxOf p l)) := by
  refine fn1E (T := Try.tt) Try.func19 rfl tt_all follows_all ?_ ?_ fun C hC hE => ?_
  · kernel_rfl
  · exact Nat.le_of_ble_eq_true (by kernel_rfl)
  conv => whnf
  intro hl
  conv => whnf
  refine loopE (fun k : Nat => ⟨19, [(0, .lst (l.map pairA)), (1, .fn h caps), (7, .int .i64 (l.map pairA).length), (8, .int .i64 k)], []⟩) (fun k => k ≤ l.length ∧ ∀ j < k, ∀ x, l[j]? = some x → p x = false) (fun k => l.length - k) 0 hE ?_ ?_ ?_ ?_
  · kernel_rfl
  · exact at_keep [0, 1, 7, 8] rfl
  · exact ⟨Nat.zero_le _, fun j hj => by omega⟩
  intro k hkj
  obtain ⟨hk, hj⟩ := hkj
  have hlm : (l.map pairA).length = l.length := by simp
  by_cases hlt : k < l.length
  · obtain ⟨x, hx⟩ : ∃ x, l[k]? = some x := ⟨_, List.getElem?_eq_getElem hlt⟩
    have hpx := hp x (List.mem_of_getElem? hx)
    conv => whnf
    repeat' (first | (refine brd_t (by first | assumption | omega) ?_; conv => whnf) | (refine brd_f (by first | assumption | omega) ?_; conv => whnf) | (refine ask (by first | assumption | omega) ?_; conv => whnf) | (refine fit64 (by omega) ?_; conv => whnf) | (refine fit (by simp only [kmin, kmax]; omega) ?_; conv => whnf) | (refine br_t (by assumption) ?_; conv => whnf) | (refine br_f (by assumption) ?_; conv => whnf) | (refine get_of (by assumption) ?_; conv => whnf) | (refine get_map (by assumption) ?_; conv => whnf) | (refine call_eq hpx hC hb ?_ ?_ ?_; kernel_rfl; exact nrB_tail (by kernel_rfl) hc; conv => whnf) | (refine draw_lex hE ?_ ?_; decide +kernel; conv => whnf) | (refine brd (fun h => ?_) (fun h => ?_) <;> conv => whnf) | (refine br (fun h => ?_) (fun h => ?_) <;> conv => whnf) | (refine ret_now hE ?_; conv => whnf) | (intro hlen; conv => whnf) | (refine seg_here ?_; conv => whnf) | (refine both ?_ ?_ <;> conv => whnf))
    · exact ⟨rfl, by rw [idxOf_hit hx (by assumption) hj]⟩
    · refine next_keep [0, 1, 7, 8] (k + 1) ⟨hlt, ?_⟩ (by omega) rfl
      intro j hjk y hy
      by_cases e : j = k
      · subst e; rw [hx] at hy; cases hy; assumption
      · exact hj j (by omega) y hy
  · conv => whnf
    repeat' (first | (refine brd_t (by first | assumption | omega) ?_; conv => whnf) | (refine brd_f (by first | assumption | omega) ?_; conv => whnf) | (refine ask (by first | assumption | omega) ?_; conv => whnf) | (refine fit64 (by omega) ?_; conv => whnf) | (refine fit (by simp only [kmin, kmax]; omega) ?_; conv => whnf) | (refine br_t (by assumption) ?_; conv => whnf) | (refine br_f (by assumption) ?_; conv => whnf) | (refine get_of (by assumption) ?_; conv => whnf) | (refine get_map (by assumption) ?_; conv => whnf) | (refine draw_lex hE ?_ ?_; decide +kernel; conv => whnf) | (refine brd (fun h => ?_) (fun h => ?_) <;> conv => whnf) | (refine br (fun h => ?_) (fun h => ?_) <;> conv => whnf) | (refine ret_now hE ?_; conv => whnf) | (intro hlen; conv => whnf) | (refine seg_here ?_; conv => whnf) | (refine both ?_ ?_ <;> conv => whnf))
    exact ⟨rfl, by rw [idxOf_miss (fun x hx => by obtain ⟨j, hj'⟩ := List.mem_iff_getElem?.1 hx; exact hj j (by have := (List.getElem?_eq_some_iff.1 hj').1; omega) x hj')]⟩

theorem containsFunc_8 (l : List (Int × Int)) (h : FuncId) (caps : List V) (p : (Int × Int) → Bool) (hb : hasBody Try.prog h = true) (hc : nrB caps = true) (hp : ∀ a ∈ l, Fn1 Try.prog h (pairA a :: caps) (fun r => r = .bool (p a))) :
    Fn1 Try.prog 8 [.lst (l.map pairA), .fn h caps] (fun r => r = .bool (l.any p)) := by
  have hi := indexFunc_19 l h caps p hb hc hp
  have ha := idxOf_any p l
  refine fn1E (T := Try.tt) Try.func8 rfl tt_all follows_all ?_ ?_ fun C hC hE => ?_
  · kernel_rfl
  · exact Nat.le_of_ble_eq_true (by kernel_rfl)
  conv => whnf
  repeat' (first | (refine brd_t (by first | assumption | omega) ?_; conv => whnf) | (refine brd_f (by first | assumption | omega) ?_; conv => whnf) | (refine ask (by first | assumption | omega) ?_; conv => whnf) | (refine fit64 (by omega) ?_; conv => whnf) | (refine fit (by simp only [kmin, kmax]; omega) ?_; conv => whnf) | (refine br_t (by assumption) ?_; conv => whnf) | (refine br_f (by assumption) ?_; conv => whnf) | (refine get_of (by assumption) ?_; conv => whnf) | (refine get_map (by assumption) ?_; conv => whnf) | (refine call_eq hi hC hasBody_19 ?_ ?_ ?_; kernel_rfl; exact nrB_fn rfl hc; conv => whnf) | (refine draw_lex hE ?_ ?_; decide +kernel; conv => whnf) | (refine brd (fun h => ?_) (fun h => ?_) <;> conv => whnf) | (refine br (fun h => ?_) (fun h => ?_) <;> conv => whnf) | (refine ret_now hE ?_; conv => whnf) | (intro hlen; conv => whnf) | (refine seg_here ?_; conv => whnf) | (refine both ?_ ?_ <;> conv => whnf))
  all_goals exact ⟨rfl, by rw [← ha]; congr 1; first | exact (decide_eq_true (by assumption)).symm | exact (decide_eq_false (by assumption)).symm⟩

end Go.Proofs.Ytmjglpdfkkmcoaa
