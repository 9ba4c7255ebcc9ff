/- The document's meant, walked. No conditions. -/
import Derived.Test.YtaapdbcbefnhgaaFindLaw
import Derived.Test.YtaapdbcbefnhgaaOwn
set_option linter.unusedSimpArgs false
set_option linter.unusedVariables false
set_option maxRecDepth 100000
namespace Go.Proofs.Ytaapdbcbefnhgaa
open Go.RowKit

theorem nodes_split (ch : List Nd) (h : ch ≠ []) : ∃ (c : List Nd) (n : List UInt8) (a : List Atr) (t : List UInt8) (ps : List Nd), ch = c ++ [.mk n a t ps] := by
  rcases List.eq_nil_or_concat ch with h0 | ⟨c, x, e⟩
  · exact absurd h0 h
  · cases x with
    | mk n a t ps => exact ⟨c, n, a, t, ps, by simpa using e⟩
def anyTo (a : List Atr) (q : List UInt8) (z : Bool) (j : Nat) : Bool := z || (a.take j).any fun x => decide (x.name = q)
theorem anyTo_step {a : List Atr} {j : Nat} {x : Atr} (hx : a[j]? = some x) (q : List UInt8) (z : Bool) : anyTo a q z (j + 1) = (anyTo a q z j || decide (x.name = q)) := by
  unfold anyTo
  rw [List.take_add_one, hx, Option.toList_some, List.any_append, ← Bool.or_assoc]
  simp
set_option maxHeartbeats 16000000 in
theorem ref_meant (P : List Pk) : ∀ (k : Nat) (ch : List Nd), k ≤ P.length → ch.length ≤ 2097152 → Fn1 Try.prog 44 [.lst ((P.take k).map pickA), .lst (nodesL ch)] (fun r => r = .bool (mB P k ch)) := by
  intro k
  induction k with
  | zero =>
    intro ch hk hc
    have hlm := nodesL_length ch
    by_cases hc0 : ch = []
    · subst hc0
      refine fn1E (T := Try.tt) Try.func44 rfl tt_all follows_all ?_ ?_ fun C hC hE => ?_
      · kernel_rfl
      · exact Nat.le_of_ble_eq_true (by kernel_rfl)
      conv => whnf
      repeat' (first | (refine brd_t (by first | assumption | omega) ?_; conv => whnf) | (refine brd_f (by first | assumption | omega) ?_; conv => whnf) | (refine ask (by first | assumption | omega) ?_; conv => whnf) | (refine fit64 (by omega) ?_; conv => whnf) | (refine fit (by simp only [kmin, kmax]; omega) ?_; conv => whnf) | (refine br_t (by assumption) ?_; conv => whnf) | (refine br_f (by assumption) ?_; conv => whnf) | (refine get_of (by assumption) ?_; conv => whnf) | (refine get_map (by assumption) ?_; conv => whnf) | (refine draw_lex hE ?_ ?_; decide +kernel; conv => whnf) | (refine brd (fun h => ?_) (fun h => ?_) <;> conv => whnf) | (refine br (fun h => ?_) (fun h => ?_) <;> conv => whnf) | (refine ret_now hE ?_; conv => whnf) | (intro hlen; conv => whnf) | (refine seg_here ?_; conv => whnf))
      all_goals first | exact ⟨rfl, rfl⟩ | (exfalso; simp_all; done)
    · have hcl : 0 < ch.length := List.length_pos_iff.2 hc0
      refine fn1E (T := Try.tt) Try.func44 rfl tt_all follows_all ?_ ?_ fun C hC hE => ?_
      · kernel_rfl
      · exact Nat.le_of_ble_eq_true (by kernel_rfl)
      conv => whnf
      repeat' (first | (refine brd_t (by first | assumption | omega) ?_; conv => whnf) | (refine brd_f (by first | assumption | omega) ?_; conv => whnf) | (refine ask (by first | assumption | omega) ?_; conv => whnf) | (refine fit64 (by omega) ?_; conv => whnf) | (refine fit (by simp only [kmin, kmax]; omega) ?_; conv => whnf) | (refine br_t (by assumption) ?_; conv => whnf) | (refine br_f (by assumption) ?_; conv => whnf) | (refine get_of (by assumption) ?_; conv => whnf) | (refine get_map (by assumption) ?_; conv => whnf) | (refine brd_t rfl ?_; conv => whnf) | (refine draw_lex hE ?_ ?_; decide +kernel; conv => whnf) | (refine brd (fun h => ?_) (fun h => ?_) <;> conv => whnf) | (refine br (fun h => ?_) (fun h => ?_) <;> conv => whnf) | (refine ret_now hE ?_; conv => whnf) | (intro hlen; conv => whnf) | (refine seg_here ?_; conv => whnf))
      all_goals first | exact ⟨rfl, rfl⟩ | (exfalso; simp_all; done)
  | succ k ih =>
    intro ch hk hc
    have hlm := nodesL_length ch
    have hPl : ((P.take (k + 1)).map pickA).length = k + 1 := by simp; omega
    by_cases hc0 : ch = []
    · subst hc0
      rw [mB_nil]
      refine fn1E (T := Try.tt) Try.func44 rfl tt_all follows_all ?_ ?_ fun C hC hE => ?_
      · kernel_rfl
      · exact Nat.le_of_ble_eq_true (by kernel_rfl)
      conv => whnf
      repeat' (first | (refine brd_t (by first | assumption | omega) ?_; conv => whnf) | (refine brd_f (by first | assumption | omega) ?_; conv => whnf) | (refine ask (by first | assumption | omega) ?_; conv => whnf) | (refine fit64 (by omega) ?_; conv => whnf) | (refine fit (by simp only [kmin, kmax]; omega) ?_; conv => whnf) | (refine br_t (by assumption) ?_; conv => whnf) | (refine br_f (by assumption) ?_; conv => whnf) | (refine get_of (by assumption) ?_; conv => whnf) | (refine get_map (by assumption) ?_; conv => whnf) | (refine brd_t rfl ?_; conv => whnf) | (refine draw_lex hE ?_ ?_; decide +kernel; conv => whnf) | (refine brd (fun h => ?_) (fun h => ?_) <;> conv => whnf) | (refine br (fun h => ?_) (fun h => ?_) <;> conv => whnf) | (refine ret_now hE ?_; conv => whnf) | (intro hlen; conv => whnf) | (refine seg_here ?_; conv => whnf))
      all_goals exact ⟨rfl, rfl⟩
    · obtain ⟨c, n, a, t, ps, rfl⟩ := nodes_split ch hc0
      obtain ⟨⟨pn, pa, pd⟩, hp⟩ : ∃ p, P[k]? = some p := ⟨_, List.getElem?_eq_getElem (by omega)⟩
      have hB := mB_step hp c (.mk n a t ps)
      have hcl : (c ++ [Nd.mk n a t ps]).length = c.length + 1 := by simp
      have hgp : ((P.take (k + 1)).map pickA)[((((P.take (k + 1)).map pickA).length : Int) - 1).toNat]? = some (.agg [.str pn, .str pa, .bool pd]) := by
        rw [hPl, show (((k + 1 : Nat) : Int) - 1).toNat = k by omega, List.getElem?_map, List.getElem?_take, if_pos (by omega), hp]
        rfl
      have hgn : (nodesL (c ++ [Nd.mk n a t ps]))[(((nodesL (c ++ [Nd.mk n a t ps])).length : Int) - 1).toNat]? = some (.agg [.str n, .lst (a.map attA), .str t, .lst (nodesL ps)]) := by
        rw [hlm, hcl, show (((c.length + 1 : Nat) : Int) - 1).toNat = c.length by omega]
        exact nodesL_get (by simp)
      have ham : (a.map attA).length = a.length := by simp
      have hBv : hasB (pn, pa, pd) (.mk n a t ps) = ((decide (pn = []) || decide (pn = n)) && (decide (pa = []) || a.any fun x => decide (x.name = pa))) := rfl
      by_cases hnm : pn = [] ∨ pn = n
      rotate_left
      · have hno : mB P (k + 1) (c ++ [.mk n a t ps]) = false := by
          rw [hB, hBv]
          simp_all
        rw [hno]
        refine fn1E (T := Try.tt) Try.func44 rfl tt_all follows_all ?_ ?_ fun C hC hE => ?_
        · kernel_rfl
        · exact Nat.le_of_ble_eq_true (by kernel_rfl)
        conv => whnf
        repeat' (first | (refine brd_t (by first | assumption | omega) ?_; conv => whnf) | (refine brd_f (by first | assumption | omega) ?_; conv => whnf) | (refine ask (by first | assumption | omega) ?_; conv => whnf) | (refine fit64 (by omega) ?_; conv => whnf) | (refine fit (by simp only [kmin, kmax]; omega) ?_; conv => whnf) | (refine br_t (by assumption) ?_; conv => whnf) | (refine br_f (by assumption) ?_; conv => whnf) | (refine get_of (by assumption) ?_; conv => whnf) | (refine get_map (by assumption) ?_; conv => whnf) | (refine get_of hgp ?_; conv => whnf) | (refine get_of hgn ?_; conv => whnf) | (refine draw_lex hE ?_ ?_; decide +kernel; conv => whnf) | (refine brd (fun h => ?_) (fun h => ?_) <;> conv => whnf) | (refine br (fun h => ?_) (fun h => ?_) <;> conv => whnf) | (refine ret_now hE ?_; conv => whnf) | (intro hlen; conv => whnf) | (refine seg_here ?_; conv => whnf))
        all_goals first | exact ⟨rfl, rfl⟩ | (exfalso; simp_all; done) | done
      obtain ⟨z, hz⟩ : ∃ z, decide (pa = []) = z := ⟨_, rfl⟩
      have hBz : hasB (pn, pa, pd) (.mk n a t ps) = anyTo a pa (decide (pa = [])) a.length := by
        rw [hBv]
        unfold anyTo
        rw [List.take_length]
        rcases hnm with h | h <;> simp [h]
      rw [hBz] at hB
      have hgo : ∀ (C : Ctx) (hC : C.P = Try.prog) (hE : EOk Try.tt C), True := fun _ _ _ => trivial
      cases z
      all_goals
        refine fn1E (T := Try.tt) Try.func44 rfl tt_all follows_all ?_ ?_ fun C hC hE => ?_
        · kernel_rfl
        · exact Nat.le_of_ble_eq_true (by kernel_rfl)
        conv => whnf
        repeat' (first | (refine brd_t (by first | assumption | omega) ?_; conv => whnf) | (refine brd_f (by first | assumption | omega) ?_; conv => whnf) | (refine ask (by first | assumption | omega) ?_; conv => whnf) | (refine fit64 (by omega) ?_; conv => whnf) | (refine fit (by simp only [kmin, kmax]; omega) ?_; conv => whnf) | (refine br_t (by assumption) ?_; conv => whnf) | (refine br_f (by assumption) ?_; conv => whnf) | (refine get_of (by assumption) ?_; conv => whnf) | (refine get_map (by assumption) ?_; conv => whnf) | (refine get_of hgp ?_; conv => whnf) | (refine get_of hgn ?_; conv => whnf) | (refine draw_lex hE ?_ ?_; decide +kernel; conv => whnf) | (refine brd (fun h => ?_) (fun h => ?_) <;> conv => whnf) | (refine br (fun h => ?_) (fun h => ?_) <;> conv => whnf) | (refine ret_now hE ?_; conv => whnf) | (intro hlen; conv => whnf) | (refine seg_here ?_; conv => whnf))
        all_goals first | (exfalso; simp_all; done) | skip
        all_goals
          refine loopE (fun j : Nat => ⟨92, [(0, .lst ((P.take (k + 1)).map pickA)), (1, .lst (nodesL (c ++ [Nd.mk n a t ps]))), (5, .ptr 0 0 0), (7, .bool (anyTo a pa (decide (pa = [])) j)), (46, .lst (a.map attA)), (47, .int .i64 (a.map attA).length), (48, .int .i64 j)], [some (.row 3 [.agg [.str pn, .str pa, .bool pd]])]⟩)
            (fun j => j ≤ a.length) (fun j => a.length - j) 0 hE ?_ ?_ (Nat.zero_le _) ?_
          · kernel_rfl
          · refine at_drop [0, 1, 5, 7, 46, 47, 48] [1] ?_
            rw [show anyTo a pa (decide (pa = [])) 0 = decide (pa = []) by simp [anyTo], hz]
            rfl
          intro j hj
          by_cases hjl : j < a.length
          · obtain ⟨⟨xn, xv⟩, hx⟩ : ∃ x, a[j]? = some x := ⟨_, List.getElem?_eq_getElem hjl⟩
            have hst := anyTo_step hx pa (decide (pa = []))
            obtain ⟨b, hb⟩ : ∃ b, anyTo a pa (decide (pa = [])) j = b := ⟨_, rfl⟩
            rw [hb] at hst
            rw [hb]
            by_cases hxe : xn = pa
            · rw [show decide ((Atr.mk xn xv).name = pa) = true from decide_eq_true hxe, Bool.or_true] at hst
              cases b
              all_goals
                conv => whnf
                repeat' (first | (refine brd_t (by first | assumption | omega) ?_; conv => whnf) | (refine brd_f (by first | assumption | omega) ?_; conv => whnf) | (refine ask (by first | assumption | omega) ?_; conv => whnf) | (refine fit64 (by omega) ?_; conv => whnf) | (refine fit (by simp only [kmin, kmax]; omega) ?_; conv => whnf) | (refine br_t (by assumption) ?_; conv => whnf) | (refine br_f (by assumption) ?_; conv => whnf) | (refine get_of (by assumption) ?_; conv => whnf) | (refine get_map (by assumption) ?_; conv => whnf) | (refine draw_lex hE ?_ ?_; decide +kernel; conv => whnf) | (refine brd (fun h => ?_) (fun h => ?_) <;> conv => whnf) | (refine br (fun h => ?_) (fun h => ?_) <;> conv => whnf) | (refine ret_now hE ?_; conv => whnf) | (intro hlen; conv => whnf) | (refine seg_here ?_; conv => whnf))
                refine next_drop [0, 1, 5, 7, 46, 47, 48] [1] (j + 1) hjl (show a.length - (j + 1) < a.length - j by omega) ?_
                rw [hst]
                rfl
            · rw [show decide ((Atr.mk xn xv).name = pa) = false from decide_eq_false hxe, Bool.or_false] at hst
              cases b
              all_goals
                conv => whnf
                repeat' (first | (refine brd_t (by first | assumption | omega) ?_; conv => whnf) | (refine brd_f (by first | assumption | omega) ?_; conv => whnf) | (refine ask (by first | assumption | omega) ?_; conv => whnf) | (refine fit64 (by omega) ?_; conv => whnf) | (refine fit (by simp only [kmin, kmax]; omega) ?_; conv => whnf) | (refine br_t (by assumption) ?_; conv => whnf) | (refine br_f (by assumption) ?_; conv => whnf) | (refine get_of (by assumption) ?_; conv => whnf) | (refine get_map (by assumption) ?_; conv => whnf) | (refine draw_lex hE ?_ ?_; decide +kernel; conv => whnf) | (refine brd (fun h => ?_) (fun h => ?_) <;> conv => whnf) | (refine br (fun h => ?_) (fun h => ?_) <;> conv => whnf) | (refine ret_now hE ?_; conv => whnf) | (intro hlen; conv => whnf) | (refine seg_here ?_; conv => whnf))
                refine next_drop [0, 1, 5, 7, 46, 47, 48] [1] (j + 1) hjl (show a.length - (j + 1) < a.length - j by omega) ?_
                rw [hst]
                rfl
          · have hja : j = a.length := by omega
            subst hja
            obtain ⟨b, hb⟩ : ∃ b, anyTo a pa (decide (pa = [])) a.length = b := ⟨_, rfl⟩
            rw [hb] at hB ⊢
            cases b
            · rw [Bool.false_and] at hB
              rw [hB]
              conv => whnf
              repeat' (first | (refine brd_t (by first | assumption | omega) ?_; conv => whnf) | (refine brd_f (by first | assumption | omega) ?_; conv => whnf) | (refine ask (by first | assumption | omega) ?_; conv => whnf) | (refine fit64 (by omega) ?_; conv => whnf) | (refine fit (by simp only [kmin, kmax]; omega) ?_; conv => whnf) | (refine br_t (by assumption) ?_; conv => whnf) | (refine br_f (by assumption) ?_; conv => whnf) | (refine get_of (by assumption) ?_; conv => whnf) | (refine get_map (by assumption) ?_; conv => whnf) | (refine draw_lex hE ?_ ?_; decide +kernel; conv => whnf) | (refine brd (fun h => ?_) (fun h => ?_) <;> conv => whnf) | (refine br (fun h => ?_) (fun h => ?_) <;> conv => whnf) | (refine ret_now hE ?_; conv => whnf) | (intro hlen; conv => whnf) | (refine seg_here ?_; conv => whnf))
              exact ⟨rfl, rfl⟩
            · rw [Bool.true_and] at hB
              by_cases hk0 : k = 0
              · rw [show decide (k = 0) = true from decide_eq_true hk0, Bool.true_or] at hB
                rw [hB]
                conv => whnf
                repeat' (first | (refine brd_t (by first | assumption | omega) ?_; conv => whnf) | (refine brd_f (by first | assumption | omega) ?_; conv => whnf) | (refine ask (by first | assumption | omega) ?_; conv => whnf) | (refine fit64 (by omega) ?_; conv => whnf) | (refine fit (by simp only [kmin, kmax]; omega) ?_; conv => whnf) | (refine br_t (by assumption) ?_; conv => whnf) | (refine br_f (by assumption) ?_; conv => whnf) | (refine get_of (by assumption) ?_; conv => whnf) | (refine get_map (by assumption) ?_; conv => whnf) | (refine draw_lex hE ?_ ?_; decide +kernel; conv => whnf) | (refine brd (fun h => ?_) (fun h => ?_) <;> conv => whnf) | (refine br (fun h => ?_) (fun h => ?_) <;> conv => whnf) | (refine ret_now hE ?_; conv => whnf) | (intro hlen; conv => whnf) | (refine seg_here ?_; conv => whnf))
                exact ⟨rfl, rfl⟩
              · rw [show decide (k = 0) = false from decide_eq_false hk0, Bool.false_or] at hB
                rw [hB]
                have hcp : ∀ y ∈ (P.take (k + 1)).map pickA, y.cells.length = 3 := fun y hy => by obtain ⟨q, _, rfl⟩ := List.mem_map.1 hy; rfl
                have eqP : List.take (((((P.take (k + 1)).map pickA).length : Nat) : Int) - 1).toNat ((P.take (k + 1)).map pickA) = (P.take k).map pickA := by
                  rw [hPl, show (((k + 1 : Nat) : Int) - 1).toNat = k by omega, ← List.map_take, List.take_take, Nat.min_eq_left (by omega)]
                cases pd
                · have eqN : List.take ((((nodesL (c ++ [Nd.mk n a t ps])).length : Nat) : Int) - 1).toNat (nodesL (c ++ [Nd.mk n a t ps])) = nodesL c := by
                    rw [hlm, hcl, show (((c.length + 1 : Nat) : Int) - 1).toNat = c.length by omega, nodesL_append]
                    exact List.take_left' (nodesL_length c)
                  have ihc := ih c (by omega) (by omega)
                  rw [if_neg (by simp)]
                  conv => whnf
                  repeat' (first | (refine brd_t (by first | assumption | omega) ?_; conv => whnf) | (refine brd_f (by first | assumption | omega) ?_; conv => whnf) | (refine ask (by first | assumption | omega) ?_; conv => whnf) | (refine fit64 (by omega) ?_; conv => whnf) | (refine fit (by simp only [kmin, kmax]; omega) ?_; conv => whnf) | (refine br_t (by assumption) ?_; conv => whnf) | (refine br_f (by assumption) ?_; conv => whnf) | (refine get_of (by assumption) ?_; conv => whnf) | (refine get_map (by assumption) ?_; conv => whnf) | (refine ⟨hcp, ?_⟩; conv => whnf) | (refine ⟨cells_nodes _, ?_⟩; conv => whnf) | (refine call_as ihc hC hasBody_44 ?_ ?_ ?_ ?_; (rw [eqP, eqN]; rfl); kernel_rfl; kernel_rfl; conv => whnf) | (refine draw_lex hE ?_ ?_; decide +kernel; conv => whnf) | (refine brd (fun h => ?_) (fun h => ?_) <;> conv => whnf) | (refine br (fun h => ?_) (fun h => ?_) <;> conv => whnf) | (refine ret_now hE ?_; conv => whnf) | (intro hlen; conv => whnf) | (refine seg_here ?_; conv => whnf))
                  all_goals exact ⟨rfl, by first | rfl | (congr 1; exact Eq.symm (by assumption)) | (congr 1; assumption)⟩
                · rw [if_pos rfl]
                  conv => whnf
                  repeat' (first | (refine brd_t (by first | assumption | omega) ?_; conv => whnf) | (refine brd_f (by first | assumption | omega) ?_; conv => whnf) | (refine ask (by first | assumption | omega) ?_; conv => whnf) | (refine fit64 (by omega) ?_; conv => whnf) | (refine fit (by simp only [kmin, kmax]; omega) ?_; conv => whnf) | (refine br_t (by assumption) ?_; conv => whnf) | (refine br_f (by assumption) ?_; conv => whnf) | (refine get_of (by assumption) ?_; conv => whnf) | (refine get_map (by assumption) ?_; conv => whnf) | (refine ⟨hcp, ?_⟩; conv => whnf) | (refine ⟨cells_nodes _, ?_⟩; conv => whnf) | (refine draw_lex hE ?_ ?_; decide +kernel; conv => whnf) | (refine brd (fun h => ?_) (fun h => ?_) <;> conv => whnf) | (refine br (fun h => ?_) (fun h => ?_) <;> conv => whnf) | (refine ret_now hE ?_; conv => whnf) | (intro hlen; conv => whnf) | (refine seg_here ?_; conv => whnf))
                  refine loopE (fun i : Nat => ⟨92, [(1, .lst (nodesL (c ++ [Nd.mk n a t ps]))), (10, .lst ((P.take k).map pickA)), (11, .int .i64 i)], []⟩)
                    (fun i => (1 ≤ i ∧ i ≤ c.length + 1) ∧ ∀ m < i, 1 ≤ m → mB P k (c.take m) = false) (fun i => c.length + 1 - i) 1 hE ?_ ?_ ⟨⟨Nat.le_refl _, by omega⟩, fun m hm h1 => by omega⟩ ?_
                  · kernel_rfl
                  · refine at_wipe [1, 10, 11] (by kernel_rfl) ?_
                    conv => whnf
                    rw [eqP]
                    rfl
                  intro i hi
                  obtain ⟨⟨hi1, hi2⟩, hi3⟩ := hi
                  by_cases hil : i < c.length + 1
                  · have ihc := ih (c.take i) (by omega) (by simp; omega)
                    obtain ⟨b2, hb2⟩ : ∃ b, mB P k (c.take i) = b := ⟨_, rfl⟩
                    rw [hb2] at ihc
                    have eqN : List.take ((i : Int)).toNat (nodesL (c ++ [Nd.mk n a t ps])) = nodesL (c.take i) := by
                      rw [show ((i : Int)).toNat = i by omega, nodesL_map, nodesL_map, ← List.map_take, List.take_append_of_le_length (by omega)]
                    cases b2
                    · conv => whnf
                      repeat' (first | (refine brd_t (by first | assumption | omega) ?_; conv => whnf) | (refine brd_f (by first | assumption | omega) ?_; conv => whnf) | (refine ask (by first | assumption | omega) ?_; conv => whnf) | (refine fit64 (by omega) ?_; conv => whnf) | (refine fit (by simp only [kmin, kmax]; omega) ?_; conv => whnf) | (refine br_t (by assumption) ?_; conv => whnf) | (refine br_f (by assumption) ?_; conv => whnf) | (refine get_of (by assumption) ?_; conv => whnf) | (refine get_map (by assumption) ?_; conv => whnf) | (refine ⟨cells_nodes _, ?_⟩; conv => whnf) | (refine call_as ihc hC hasBody_44 ?_ ?_ ?_ ?_; (rw [eqN]; rfl); kernel_rfl; kernel_rfl; conv => whnf) | (refine draw_lex hE ?_ ?_; decide +kernel; conv => whnf) | (refine brd (fun h => ?_) (fun h => ?_) <;> conv => whnf) | (refine br (fun h => ?_) (fun h => ?_) <;> conv => whnf) | (refine ret_now hE ?_; conv => whnf) | (intro hlen; conv => whnf) | (refine seg_here ?_; conv => whnf))
                      refine next_wipe [1, 10, 11] (i + 1) (by kernel_rfl) ⟨⟨by omega, by omega⟩, fun m hm h1 => ?_⟩ (show c.length + 1 - (i + 1) < c.length + 1 - i by omega) rfl
                      by_cases e : m = i
                      · subst e; exact hb2
                      · exact hi3 m (by omega) h1
                    · have hany : ((List.range c.length).any fun j => mB P k (c.take (j + 1))) = true := by
                        rw [List.any_eq_true]
                        exact ⟨i - 1, List.mem_range.2 (by omega), by rw [show i - 1 + 1 = i by omega]; exact hb2⟩
                      rw [hany]
                      conv => whnf
                      repeat' (first | (refine brd_t (by first | assumption | omega) ?_; conv => whnf) | (refine brd_f (by first | assumption | omega) ?_; conv => whnf) | (refine ask (by first | assumption | omega) ?_; conv => whnf) | (refine fit64 (by omega) ?_; conv => whnf) | (refine fit (by simp only [kmin, kmax]; omega) ?_; conv => whnf) | (refine br_t (by assumption) ?_; conv => whnf) | (refine br_f (by assumption) ?_; conv => whnf) | (refine get_of (by assumption) ?_; conv => whnf) | (refine get_map (by assumption) ?_; conv => whnf) | (refine ⟨cells_nodes _, ?_⟩; conv => whnf) | (refine call_as ihc hC hasBody_44 ?_ ?_ ?_ ?_; (rw [eqN]; rfl); kernel_rfl; kernel_rfl; conv => whnf) | (refine draw_lex hE ?_ ?_; decide +kernel; conv => whnf) | (refine brd (fun h => ?_) (fun h => ?_) <;> conv => whnf) | (refine br (fun h => ?_) (fun h => ?_) <;> conv => whnf) | (refine ret_now hE ?_; conv => whnf) | (intro hlen; conv => whnf) | (refine seg_here ?_; conv => whnf))
                      exact ⟨rfl, rfl⟩
                  · have hany : ((List.range c.length).any fun j => mB P k (c.take (j + 1))) = false := by
                      rw [List.any_eq_false]
                      intro m hm
                      rw [List.mem_range] at hm
                      rw [hi3 (m + 1) (by omega) (by omega)]
                      simp
                    rw [hany]
                    conv => whnf
                    repeat' (first | (refine brd_t (by first | assumption | omega) ?_; conv => whnf) | (refine brd_f (by first | assumption | omega) ?_; conv => whnf) | (refine ask (by first | assumption | omega) ?_; conv => whnf) | (refine fit64 (by omega) ?_; conv => whnf) | (refine fit (by simp only [kmin, kmax]; omega) ?_; conv => whnf) | (refine br_t (by assumption) ?_; conv => whnf) | (refine br_f (by assumption) ?_; conv => whnf) | (refine get_of (by assumption) ?_; conv => whnf) | (refine get_map (by assumption) ?_; conv => whnf) | (refine draw_lex hE ?_ ?_; decide +kernel; conv => whnf) | (refine brd (fun h => ?_) (fun h => ?_) <;> conv => whnf) | (refine br (fun h => ?_) (fun h => ?_) <;> conv => whnf) | (refine ret_now hE ?_; conv => whnf) | (intro hlen; conv => whnf) | (refine seg_here ?_; conv => whnf))
                    exact ⟨rfl, rfl⟩
end Go.Proofs.Ytaapdbcbefnhgaa
