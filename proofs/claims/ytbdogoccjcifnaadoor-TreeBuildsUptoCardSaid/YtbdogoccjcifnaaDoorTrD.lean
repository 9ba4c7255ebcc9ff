/- The program's Build, walked. No conditions. -/
import Derived.Test.YtbdogoccjcifnaaDoorTrB
import Derived.Test.YtbdogoccjcifnaaDoorLib
import Derived.Test.YtbdogoccjcifnaaDoorData
import Derived.Test.YtbdogoccjcifnaaDoorTrC
/-! The tree that came, as it is read; its nodes: walked. No conditions. -/
set_option linter.unusedSimpArgs false
set_option linter.unusedVariables false
set_option maxRecDepth 100000
namespace Go.Proofs.YtbdogoccjcifnaaDoor
open Go.RowKit

def ndOf (r : Rc) (ps : List Nd) : Nd := if r.elem then .mk r.name r.atts [] ps else .mk [] [] r.text []
def treeN (A : List Rc) : Nat → Nat → List Nd
  | 0, _ => []
  | f + 1, p => (kids p A).map fun c => ndOf (recO A c) (treeN A f c)
def frV (A : List Rc) : Nat → Nat → V
  | 0, _ => .any
  | f + 1, p => .rp [ndV (recO A p), .lst ((kids p A).map (frV A f)), .str (recO A p).text, .bool (recO A p).elem]
theorem kids_mem {A : List Rc} {p c : Nat} (hW : Wf A) (h : c ∈ kids p A) : p < c ∧ c < A.length + 1 := by
  obtain ⟨j, r, h1, h2, h3⟩ := (idsW_mem _ 0 A c).1 h
  have h4 := hW.inn j r h2
  have h5 := (List.getElem?_eq_some_iff.1 h2).1
  simp at h3
  omega
theorem see_tree {A : List Rc} (hW : Wf A) {h : List (Option Ob)} (ht : ∀ i, h[i + 8]? = (obA A)[i]?) : ∀ (f p : Nat), p < A.length + 1 → See h (ptV p) (frV A f p)
  | 0, p, _ => .any _
  | f + 1, p, hp => by
    have h1 : h[2 * p + 8]? = some (some (.row 4 [stV A p])) := by rw [ht]; exact obG_f _ _ hp
    have h2 : h[2 * p + 9]? = some (some (.row 1 (kdV A p))) := by rw [show 2 * p + 9 = 2 * p + 1 + 8 by omega, ht]; exact obG_g _ _ hp
    refine .ptr _ 4 (stV A p) [] _ h1 (by simp) fun j c d hc hd => ?_
    unfold stV stR at hc
    simp only [V.cells] at hc
    match j with
    | 0 => simp at hc hd; subst hc; subst hd; exact .same _ (ndV_nr _)
    | 1 =>
      simp at hc hd; subst hc; subst hd
      refine .sl _ 1 _ (kdV A p) _ h2 (by simp [kdV]) (by simp) (fun i x y hx hy => ?_) (fun i k x y c d hx hy hc hd => ?_)
      · unfold kdV at hx
        rw [List.getElem?_map, Option.map_eq_some_iff] at hx hy
        obtain ⟨q, _, rfl⟩ := hx
        obtain ⟨q', _, rfl⟩ := hy
        cases f <;> rfl
      · unfold kdV at hx
        rw [List.getElem?_map, Option.map_eq_some_iff] at hx hy
        obtain ⟨q, hq, rfl⟩ := hx
        obtain ⟨q', hq', rfl⟩ := hy
        rw [hq] at hq'
        cases hq'
        have hm := kids_mem hW (List.mem_of_getElem? hq)
        cases k with
        | succ k => simp [ptV, V.cells] at hc
        | zero =>
          have e : (frV A f q).cells = [frV A f q] := by cases f <;> rfl
          rw [e] at hd
          simp [ptV, V.cells] at hc hd
          subst hc; subst hd
          exact see_tree hW ht f q hm.2
    | 2 => simp at hc hd; subst hc; subst hd; exact .same _ trivial
    | 3 => simp at hc hd; subst hc; subst hd; exact .same _ trivial
    | j + 4 => simp at hd
def pV (A : List Rc) (f : Nat) (c : Nat) : V := if (recO A c).elem then nodeA (.mk (recO A c).name (recO A c).atts [] (treeN A f c)) else .agg [.str [], .nils, .str (recO A c).text, .nils]
theorem pV_nr (A : List Rc) (f c : Nat) : (pV A f c).nr := by
  unfold pV
  split
  · rw [nodeA_mk]; exact ⟨trivial, trivial, trivial, trivial, trivial⟩
  · exact ⟨trivial, trivial, trivial, trivial, trivial⟩
theorem pVs_nr (A : List Rc) (f : Nat) (l : List Nat) : nrL (l.map (pV A f)) := by
  rw [nrL_mem]
  intro x hx
  obtain ⟨c, _, rfl⟩ := List.mem_map.1 hx
  exact pV_nr A f c
theorem pVs_nl (A : List Rc) (f : Nat) : ∀ l : List Nat, nlL (l.map (pV A f)) = nodesL (l.map fun c => ndOf (recO A c) (treeN A f c))
  | [] => by simp [nlL, nodesL]
  | c :: l => by
    simp only [List.map_cons, nlL, nodesL, pVs_nl A f l]
    congr 1
    unfold pV ndOf
    split
    · exact nl_node _
    · simp [V.nl, nlL, nodeA, nodesL]
set_option maxHeartbeats 16000000 in
theorem nodes_fn {A : List Rc} (hW : Wf A) (hA : A.length ≤ 900) : ∀ (f p : Nat), A.length + 1 < p + f → p < A.length + 1 → Fn1 Tryd.prog 11 [frV A f p] (fun r => r = .lst (nodesL (treeN A f p)))
  | 0, p, h1, h2 => by omega
  | f + 1, p, h1, h2 => by
    have hkl := kids_len p A
    have hkm : ((kids p A).map (frV A f)).length = (kids p A).length := by simp
    refine fn1_nl ?_
    unfold frV
    rcases ndV_cases (recO A p) with hnd | ⟨sn, ln, hnd⟩
    all_goals
      rw [hnd]
      refine fn1E (T := Tryd.tt) Tryd.func11 rfl tt_all follows_all ?_ ?_ fun C hC hE => ?_
      · kernel_rfl
      · exact Nat.le_of_ble_eq_true (by kernel_rfl)
      conv => whnf
      repeat' (first | (refine brd_t (by first | assumption | omega) ?_; conv => whnf) | (refine brd_f (by first | assumption | omega) ?_; conv => whnf) | (refine ask (by first | assumption | omega) ?_; conv => whnf) | (refine fit64 (by omega) ?_; conv => whnf) | (refine fit (by simp only [kmin, kmax]; omega) ?_; conv => whnf) | (refine br_t (by assumption) ?_; conv => whnf) | (refine br_f (by assumption) ?_; conv => whnf) | (refine get_of (by assumption) ?_; conv => whnf) | (refine get_map (by assumption) ?_; conv => whnf) | (refine draw_lex hE ?_ ?_; decide +kernel; conv => whnf) | (refine brd (fun h => ?_) (fun h => ?_) <;> conv => whnf) | (refine br (fun h => ?_) (fun h => ?_) <;> conv => whnf) | (refine ret_now hE ?_; conv => whnf) | (intro hlen; conv => whnf) | (refine seg_here ?_; conv => whnf) | (refine both ?_ ?_ <;> conv => whnf))
      refine loopE (fun k : Nat => ⟨44, [(3, .sl 0 0 k), (10, .lst ((kids p A).map (frV A f))), (11, .int .i64 ((kids p A).map (frV A f)).length), (12, .int .i64 k)], [some (.row 4 (((kids p A).take k).map (pV A f)))]⟩)
        (fun k => k ≤ (kids p A).length) (fun k => (kids p A).length - k) 0 hE ?_ ?_ (Nat.zero_le _) ?_
      · kernel_rfl
      · exact up_own 3 4 rfl rfl (at_keep [3, 10, 11, 12] rfl)
      intro k hk
      have hpl : (((kids p A).take k).map (pV A f)).length = k := by rw [List.length_map, List.length_take]; omega
      have hkl0 := kill_nrL 0 (pVs_nr A f ((kids p A).take k))
      by_cases hlt : k < (kids p A).length
      · obtain ⟨c, hc⟩ : ∃ c, (kids p A)[k]? = some c := ⟨_, List.getElem?_eq_getElem hlt⟩
        have hcm := kids_mem hW (List.mem_of_getElem? hc)
        obtain ⟨f', rfl⟩ : ∃ f', f = f' + 1 := ⟨f - 1, by omega⟩
        have hcg : ((kids p A).map (frV A (f' + 1)))[k]? = some (.rp [ndV (recO A c), .lst ((kids c A).map (frV A f')), .str (recO A c).text, .bool (recO A c).elem]) := by rw [List.getElem?_map, hc]; rfl
        have ih := nodes_fn hW hA (f' + 1) c (by omega) hcm.2
        have hnext : ((kids p A).take k).map (pV A (f' + 1)) ++ [pV A (f' + 1) c] = ((kids p A).take (k + 1)).map (pV A (f' + 1)) := by
          rw [show [pV A (f' + 1) c] = [c].map (pV A (f' + 1)) from rfl, ← List.map_append]
          congr 1
          rw [List.take_add_one, hc]
          rfl
        have hR0 : ∀ x, x = pV A (f' + 1) c → List.take k (List.drop 0 (((kids p A).take k).map (pV A (f' + 1)))) ++ List.take 1 (List.drop 0 [x]) = ((kids p A).take (k + 1)).map (pV A (f' + 1)) := by
          rintro x rfl
          rw [List.drop_zero, List.drop_zero, List.take_of_length_le (by omega), show List.take 1 [pV A (f' + 1) c] = [pV A (f' + 1) c] from rfl, hnext]
        have hR1 : ∀ x, x = pV A (f' + 1) c → killL 1 (killL 0 (List.take k (List.drop 0 (((kids p A).take k).map (pV A (f' + 1)))) ++ List.take 1 (List.drop 0 [x]))) = ((kids p A).take (k + 1)).map (pV A (f' + 1)) := by
          intro x hx
          rw [hR0 x hx, kill_nrL 0 (pVs_nr A _ _), kill_nrL 1 (pVs_nr A _ _)]
        have hR2 : ∀ x, x = pV A (f' + 1) c → killL 2 (killL 1 (killL 0 (List.take k (List.drop 0 (((kids p A).take k).map (pV A (f' + 1)))) ++ List.take 1 (List.drop 0 [x])))) = ((kids p A).take (k + 1)).map (pV A (f' + 1)) := by
          intro x hx
          rw [hR1 x hx, kill_nrL 2 (pVs_nr A _ _)]
        cases hel : (recO A c).elem with
        | false =>
          rw [hel, ndV_text hel] at hcg
          have hpv : pV A (f' + 1) c = .agg [.str [], .nils, .str (recO A c).text, .nils] := if_neg (by rw [hel]; decide)
          conv => whnf
          repeat' (first | (refine brd_t (by first | assumption | omega) ?_; conv => whnf) | (refine brd_f (by first | assumption | omega) ?_; conv => whnf) | (refine ask (by first | assumption | omega) ?_; conv => whnf) | (refine fit64 (by omega) ?_; conv => whnf) | (refine fit (by simp only [kmin, kmax]; omega) ?_; conv => whnf) | (refine br_t (by assumption) ?_; conv => whnf) | (refine br_f (by assumption) ?_; conv => whnf) | (refine get_of (by assumption) ?_; conv => whnf) | (refine get_map (by assumption) ?_; conv => whnf) | (refine get_of hcg ?_; conv => whnf) | (refine ask (Nat.le_refl 1) ?_; conv => whnf) | (refine ask ⟨?_, ?_, ?_⟩ ?_; (show 0 + k ≤ _; omega); (show k + 1 ≤ 9223372036854775807; omega); (show (k + 1) * 80 ≤ 140737488355328; omega); conv => whnf) | (refine draw_lex hE ?_ ?_; decide +kernel; conv => whnf) | (refine brd (fun h => ?_) (fun h => ?_) <;> conv => whnf) | (refine br (fun h => ?_) (fun h => ?_) <;> conv => whnf) | (refine ret_now hE ?_; conv => whnf) | (intro hlen; conv => whnf) | (refine seg_here ?_; conv => whnf) | (refine both ?_ ?_ <;> conv => whnf))
          refine next_drop [3, 10, 11, 12] [1] (k + 1) hlt (by omega) ?_
          conv => whnf
          rw [hR1 _ hpv.symm]
          rfl
        | true =>
          rw [hel, ndV_elem hel] at hcg
          have hpv : pV A (f' + 1) c = nodeA (.mk (recO A c).name (recO A c).atts [] (treeN A (f' + 1) c)) := if_pos hel
          rw [nodeA_mk] at hpv
          rw [show frV A (f' + 1) c = .rp [.rp [.str (recO A c).name, .lst ((recO A c).atts.map attA), .str [], .nils], .lst ((kids c A).map (frV A f')), .str (recO A c).text, .bool true] by unfold frV; rw [ndV_elem hel, hel]] at ih
          conv => whnf
          repeat' (first | (refine brd_t (by first | assumption | omega) ?_; conv => whnf) | (refine brd_f (by first | assumption | omega) ?_; conv => whnf) | (refine ask (by first | assumption | omega) ?_; conv => whnf) | (refine fit64 (by omega) ?_; conv => whnf) | (refine fit (by simp only [kmin, kmax]; omega) ?_; conv => whnf) | (refine br_t (by assumption) ?_; conv => whnf) | (refine br_f (by assumption) ?_; conv => whnf) | (refine get_of (by assumption) ?_; conv => whnf) | (refine get_map (by assumption) ?_; conv => whnf) | (refine get_of hcg ?_; conv => whnf) | (refine call_eq (ih) hC hasBody_11 ?_ ?_ ?_; kernel_rfl; kernel_rfl; conv => whnf) | (refine callq_eq (ih) hC hasBody_11 ?_ ?_ ?_; kernel_rfl; kernel_rfl; conv => whnf) | (refine ask (Nat.le_refl 1) ?_; conv => whnf) | (refine ask ⟨?_, ?_, ?_⟩ ?_; (show 0 + k ≤ _; omega); (show k + 1 ≤ 9223372036854775807; omega); (show (k + 1) * 80 ≤ 140737488355328; omega); conv => whnf) | (refine draw_lex hE ?_ ?_; decide +kernel; conv => whnf) | (refine brd (fun h => ?_) (fun h => ?_) <;> conv => whnf) | (refine br (fun h => ?_) (fun h => ?_) <;> conv => whnf) | (refine ret_now hE ?_; conv => whnf) | (intro hlen; conv => whnf) | (refine seg_here ?_; conv => whnf) | (refine both ?_ ?_ <;> conv => whnf))
          refine next_drop [3, 10, 11, 12] [1, 2] (k + 1) hlt (by omega) ?_
          conv => whnf
          rw [hR2 _ hpv.symm]
          rfl
      · have hD : (kids p A).take k = kids p A := List.take_of_length_le (by omega)
        rw [hD] at hpl hkl0 ⊢
        conv => whnf
        repeat' (first | (refine brd_t (by first | assumption | omega) ?_; conv => whnf) | (refine brd_f (by first | assumption | omega) ?_; conv => whnf) | (refine ask (by first | assumption | omega) ?_; conv => whnf) | (refine fit64 (by omega) ?_; conv => whnf) | (refine fit (by simp only [kmin, kmax]; omega) ?_; conv => whnf) | (refine br_t (by assumption) ?_; conv => whnf) | (refine br_f (by assumption) ?_; conv => whnf) | (refine get_of (by assumption) ?_; conv => whnf) | (refine get_map (by assumption) ?_; conv => whnf) | (refine ret_up (up_frzK 0 2 [] rfl (pVs_nr A f (kids p A)) rfl (by omega) rfl (up_here ?_))) | (refine draw_lex hE ?_ ?_; decide +kernel; conv => whnf) | (refine brd (fun h => ?_) (fun h => ?_) <;> conv => whnf) | (refine br (fun h => ?_) (fun h => ?_) <;> conv => whnf) | (refine ret_now hE ?_; conv => whnf) | (intro hlen; conv => whnf) | (refine seg_here ?_; conv => whnf) | (refine both ?_ ?_ <;> conv => whnf))
        refine ⟨rfl, ?_⟩
        simp only [V.nl, pVs_nl]
        rfl
end Go.Proofs.YtbdogoccjcifnaaDoor

/-! slices.Contains at strings and the document's oneOf, walked. No conditions. -/
namespace Go.Proofs.YtbdogoccjcifnaaDoor
open Go.RowKit

theorem index_str (l : List (List UInt8)) (q : List UInt8) : Fn1 Tryd.prog 21 [.lst (l.map V.str), .str q] (fun r => r = .int .i64 (idxOf (fun x => decide (q = x)) l)) := by
  refine fn1E (T := Tryd.tt) Tryd.func21 rfl tt_all follows_all ?_ ?_ fun C hC hE => ?_
  · kernel_rfl
  · exact Nat.le_of_ble_eq_true (by kernel_rfl)
  conv => whnf
  intro hl
  conv => whnf
  refine loopE (fun k : Nat => ⟨19, [(0, .lst (l.map V.str)), (1, .str q), (7, .int .i64 (l.map V.str).length), (8, .int .i64 k)], []⟩) (fun k => k ≤ l.length ∧ ∀ j < k, ∀ x, l[j]? = some x → decide (q = x) = false) (fun k => l.length - k) 0 hE ?_ ?_ ?_ ?_
  · kernel_rfl
  · exact at_keep [0, 1, 7, 8] rfl
  · exact ⟨Nat.zero_le _, fun j hj => by omega⟩
  intro k hkj
  obtain ⟨hk, hj⟩ := hkj
  have hlm : (l.map V.str).length = l.length := by simp
  by_cases hlt : k < l.length
  · obtain ⟨x, hx⟩ : ∃ x, l[k]? = some x := ⟨_, List.getElem?_eq_getElem hlt⟩
    conv => whnf
    repeat' (first | (refine brd_t (by first | assumption | omega) ?_; conv => whnf) | (refine brd_f (by first | assumption | omega) ?_; conv => whnf) | (refine ask (by first | assumption | omega) ?_; conv => whnf) | (refine fit64 (by omega) ?_; conv => whnf) | (refine fit (by simp only [kmin, kmax]; omega) ?_; conv => whnf) | (refine br_t (by assumption) ?_; conv => whnf) | (refine br_f (by assumption) ?_; conv => whnf) | (refine get_of (by assumption) ?_; conv => whnf) | (refine get_map (by assumption) ?_; conv => whnf) | (refine draw_lex hE ?_ ?_; decide +kernel; conv => whnf) | (refine brd (fun h => ?_) (fun h => ?_) <;> conv => whnf) | (refine br (fun h => ?_) (fun h => ?_) <;> conv => whnf) | (refine ret_now hE ?_; conv => whnf) | (intro hlen; conv => whnf) | (refine seg_here ?_; conv => whnf) | (refine both ?_ ?_ <;> conv => whnf))
    · exact ⟨rfl, by rw [idxOf_hit hx (decide_eq_true (by assumption)) hj]⟩
    · refine next_keep [0, 1, 7, 8] (k + 1) ⟨hlt, ?_⟩ (by omega) rfl
      intro j hjk y hy
      by_cases e : j = k
      · subst e; rw [hx] at hy; cases hy; exact decide_eq_false (by assumption)
      · exact hj j (by omega) y hy
  · conv => whnf
    repeat' (first | (refine brd_t (by first | assumption | omega) ?_; conv => whnf) | (refine brd_f (by first | assumption | omega) ?_; conv => whnf) | (refine ask (by first | assumption | omega) ?_; conv => whnf) | (refine fit64 (by omega) ?_; conv => whnf) | (refine fit (by simp only [kmin, kmax]; omega) ?_; conv => whnf) | (refine br_t (by assumption) ?_; conv => whnf) | (refine br_f (by assumption) ?_; conv => whnf) | (refine get_of (by assumption) ?_; conv => whnf) | (refine get_map (by assumption) ?_; conv => whnf) | (refine draw_lex hE ?_ ?_; decide +kernel; conv => whnf) | (refine brd (fun h => ?_) (fun h => ?_) <;> conv => whnf) | (refine br (fun h => ?_) (fun h => ?_) <;> conv => whnf) | (refine ret_now hE ?_; conv => whnf) | (intro hlen; conv => whnf) | (refine seg_here ?_; conv => whnf) | (refine both ?_ ?_ <;> conv => whnf))
    exact ⟨rfl, by rw [idxOf_miss (fun x hx => by obtain ⟨j, hj'⟩ := List.mem_iff_getElem?.1 hx; exact hj j (by have := (List.getElem?_eq_some_iff.1 hj').1; omega) x hj')]⟩

theorem contains_str (l : List (List UInt8)) (q : List UInt8) : Fn1 Tryd.prog 18 [.lst (l.map V.str), .str q] (fun r => r = .bool (decide (q ∈ l))) := by
  have ha := idxOf_any (fun x => decide (q = x)) l
  have hb : decide (q ∈ l) = l.any (fun x => decide (q = x)) := by rw [Bool.eq_iff_iff]; simp
  refine fn1E (T := Tryd.tt) Tryd.func18 rfl tt_all follows_all ?_ ?_ fun C hC hE => ?_
  · kernel_rfl
  · exact Nat.le_of_ble_eq_true (by kernel_rfl)
  conv => whnf
  repeat' (first | (refine brd_t (by first | assumption | omega) ?_; conv => whnf) | (refine brd_f (by first | assumption | omega) ?_; conv => whnf) | (refine ask (by first | assumption | omega) ?_; conv => whnf) | (refine fit64 (by omega) ?_; conv => whnf) | (refine fit (by simp only [kmin, kmax]; omega) ?_; conv => whnf) | (refine br_t (by assumption) ?_; conv => whnf) | (refine br_f (by assumption) ?_; conv => whnf) | (refine get_of (by assumption) ?_; conv => whnf) | (refine get_map (by assumption) ?_; conv => whnf) | (refine call_eq (index_str _ _) hC hasBody_21 ?_ ?_ ?_; kernel_rfl; kernel_rfl; conv => whnf) | (refine callq_eq (index_str _ _) hC hasBody_21 ?_ ?_ ?_; kernel_rfl; kernel_rfl; conv => whnf) | (refine draw_lex hE ?_ ?_; decide +kernel; conv => whnf) | (refine brd (fun h => ?_) (fun h => ?_) <;> conv => whnf) | (refine br (fun h => ?_) (fun h => ?_) <;> conv => whnf) | (refine ret_now hE ?_; conv => whnf) | (intro hlen; conv => whnf) | (refine seg_here ?_; conv => whnf) | (refine both ?_ ?_ <;> conv => whnf))
  all_goals exact ⟨rfl, by rw [hb, ← ha]; congr 1; first | exact (decide_eq_true (by assumption)).symm | exact (decide_eq_false (by assumption)).symm⟩

theorem one_of (q : List UInt8) (L : List (List UInt8)) : Fn1 Tryd.prog 15 [.str q, .lst (L.map V.str)] (fun r => r = .bool (decide (q ∈ L))) := by
  have hlm : (L.map V.str).length = L.length := by simp
  refine fn1E (T := Tryd.tt) Tryd.func15 rfl tt_all follows_all ?_ ?_ fun C hC hE => ?_
  · kernel_rfl
  · exact Nat.le_of_ble_eq_true (by kernel_rfl)
  conv => whnf
  intro hl
  conv => whnf
  refine loopE (fun k : Nat => ⟨17, [(0, .str q), (7, .lst (L.map V.str)), (8, .int .i64 (L.map V.str).length), (9, .int .i64 k)], []⟩) (fun k => k ≤ L.length ∧ ∀ j < k, ∀ x, L[j]? = some x → x ≠ q) (fun k => L.length - k) 0 hE ?_ ?_ ⟨Nat.zero_le _, fun j hj => by omega⟩ ?_
  · kernel_rfl
  · exact at_keep [0, 7, 8, 9] rfl
  intro k hk
  obtain ⟨hk, hj⟩ := hk
  by_cases hlt : k < L.length
  · obtain ⟨x, hx⟩ : ∃ x, L[k]? = some x := ⟨_, List.getElem?_eq_getElem hlt⟩
    conv => whnf
    repeat' (first | (refine brd_t (by first | assumption | omega) ?_; conv => whnf) | (refine brd_f (by first | assumption | omega) ?_; conv => whnf) | (refine ask (by first | assumption | omega) ?_; conv => whnf) | (refine fit64 (by omega) ?_; conv => whnf) | (refine fit (by simp only [kmin, kmax]; omega) ?_; conv => whnf) | (refine br_t (by assumption) ?_; conv => whnf) | (refine br_f (by assumption) ?_; conv => whnf) | (refine get_of (by assumption) ?_; conv => whnf) | (refine get_map (by assumption) ?_; conv => whnf) | (refine draw_lex hE ?_ ?_; decide +kernel; conv => whnf) | (refine brd (fun h => ?_) (fun h => ?_) <;> conv => whnf) | (refine br (fun h => ?_) (fun h => ?_) <;> conv => whnf) | (refine ret_now hE ?_; conv => whnf) | (intro hlen; conv => whnf) | (refine seg_here ?_; conv => whnf) | (refine both ?_ ?_ <;> conv => whnf))
    · refine ⟨rfl, ?_⟩
      have h : q = x := by assumption
      rw [h, decide_eq_true (List.mem_of_getElem? hx)]
    · refine next_keep [0, 7, 8, 9] (k + 1) ⟨hlt, fun j hjk x' hx' => ?_⟩ (by omega) rfl
      by_cases e : j = k
      · subst e; rw [hx] at hx'; cases hx'; exact fun h => absurd h.symm (by assumption)
      · exact hj j (by omega) x' hx'
  · conv => whnf
    repeat' (first | (refine brd_t (by first | assumption | omega) ?_; conv => whnf) | (refine brd_f (by first | assumption | omega) ?_; conv => whnf) | (refine ask (by first | assumption | omega) ?_; conv => whnf) | (refine fit64 (by omega) ?_; conv => whnf) | (refine fit (by simp only [kmin, kmax]; omega) ?_; conv => whnf) | (refine br_t (by assumption) ?_; conv => whnf) | (refine br_f (by assumption) ?_; conv => whnf) | (refine get_of (by assumption) ?_; conv => whnf) | (refine get_map (by assumption) ?_; conv => whnf) | (refine draw_lex hE ?_ ?_; decide +kernel; conv => whnf) | (refine brd (fun h => ?_) (fun h => ?_) <;> conv => whnf) | (refine br (fun h => ?_) (fun h => ?_) <;> conv => whnf) | (refine ret_now hE ?_; conv => whnf) | (intro hlen; conv => whnf) | (refine seg_here ?_; conv => whnf) | (refine both ?_ ?_ <;> conv => whnf))
    refine ⟨rfl, ?_⟩
    rw [decide_eq_false]
    intro hm
    obtain ⟨j, hj'⟩ := List.mem_iff_getElem?.1 hm
    exact hj j (by have := (List.getElem?_eq_some_iff.1 hj').1; omega) q hj' rfl
end Go.Proofs.YtbdogoccjcifnaaDoor

/-! The program's Build, walked. No conditions. -/
namespace Go.Proofs.YtbdogoccjcifnaaDoor
open Go.RowKit

theorem fn1G_nl {P : Program} {G : World → Prop} {f : FuncId} {args : List V} {R : V → Prop} (h : Fn1G P G f args fun r => R r.nl) : Fn1G P G f args R :=
  fun w I vs h0 h1 h2 h3 => (h w I vs h0 h1 h2 h3).mono fun _ _ ⟨v, r, I', a, b, c, d⟩ => ⟨v, r.nl, I', a, b, c.nl, d⟩
/-- A package-level array of strings holds these. -/
def GB (g : Nat) (L : List (List UInt8)) (w : World) : Prop := g < w.heap.size ∧ ∀ (j : Nat) (x : List UInt8), L[j]? = some x → ∃ s : ByteArray, w.cell? ⟨g, j, none⟩ = some (.string s) ∧ s.data.toList = x ∧ s.size ≤ maxLen
theorem keptGB (g : Nat) (L : List (List UInt8)) : KeptG (GB g L) := by
  intro w w' hk ⟨h1, h2⟩
  refine ⟨Nat.lt_of_lt_of_le h1 hk.size, fun j x hx => ?_⟩
  obtain ⟨s, hs⟩ := h2 j x hx
  refine ⟨s, ?_, hs.2⟩
  rw [cell_of_block (hk.block g h1 (fun h => h))]
  exact hs.1
/-- slices.Contains over such an array. -/
theorem contains_gsl (g : Nat) (L : List (List UInt8)) (q : List UInt8) (hL : L.length ≤ 1000) : Fn1G Tryd.prog (GB g L) 18 [.gsl g L.length, .str q] (fun r => r = .bool (decide (q ∈ L))) := by
  intro w I vs hG hl hvs hI
  refine (contains_str L q w (fun b => I b ∨ b = g) vs hl (fun i v x hv hx => ?_) (fun b hb => ?_)).mono ?_
  · match i with
    | 0 =>
      simp at hx
      subst hx
      have h0 := hvs 0 v _ hv rfl
      cases h0 with
      | gsl _ _ hm =>
        have e : (L.map V.str).length = L.length := by simp
        have hp : Pr w (fun b => I b ∨ b = g) (.slice (some ⟨g, 0, none⟩) (L.map V.str).length L.length) (.lst (L.map V.str)) := by
          refine .lst g 0 L.length 1 (L.map V.str) (fun i j => if i < L.length then (w.cell? ⟨g, i, none⟩).getD (.int .i64 0) else .int .i64 0) (.inr rfl) (by omega) (by simp [maxLen]; omega) (fun i x hx => ?_) (fun i j hi hj => ?_) (fun i j => ?_) (fun i x j c hx hc => ?_)
          · rw [List.getElem?_map, Option.map_eq_some_iff] at hx
            obtain ⟨s, _, rfl⟩ := hx
            rfl
          · rw [e] at hi
            obtain ⟨x, hx⟩ : ∃ x, L[i]? = some x := ⟨_, List.getElem?_eq_getElem hi⟩
            obtain ⟨s, hs, _⟩ := hG.2 i x hx
            rw [if_pos hi, show 0 + i * 1 + j = i by omega, hs]
            rfl
          · split
            · rename_i hi
              obtain ⟨x, hx⟩ : ∃ x, L[i]? = some x := ⟨_, List.getElem?_eq_getElem hi⟩
              obtain ⟨s, hs, _⟩ := hG.2 i x hx
              rw [hs]
              rfl
            · rfl
          · rw [List.getElem?_map, Option.map_eq_some_iff] at hx
            obtain ⟨s0, hs0, rfl⟩ := hx
            cases j with
            | succ j => simp [V.cells] at hc
            | zero =>
              simp [V.cells] at hc
              subst hc
              obtain ⟨s, hs, h2, h3⟩ := hG.2 i s0 hs0
              rw [if_pos (List.getElem?_eq_some_iff.1 hs0).1, hs]
              subst h2
              exact .str s h3
        rw [e] at hp
        exact hp
    | 1 =>
      simp at hx
      subst hx
      exact (hvs 1 v _ hv rfl).later (fun _ _ => rfl) (fun _ h => .inl h)
    | i + 2 => simp at hx
  · rcases hb with hb | rfl
    · exact hI b hb
    · exact hG.1
  · rintro e w' ⟨v, r, I', rfl, rfl, hp, _, hk⟩
    exact ⟨v, _, I, rfl, rfl, hp.sc rfl, fun b hb => ⟨Nat.lt_of_lt_of_le (hI b hb) hk.size, .inl hb⟩, hk⟩
def GT (w : World) : Prop := GB 0 blkL w ∧ GB 1 vodL w
theorem keptGT : KeptG GT := fun w w' hk ⟨h1, h2⟩ => ⟨keptGB _ _ w w' hk h1, keptGB _ _ w w' hk h2⟩
def hpB (S : Bs) (o2 : Option Ob) : List (Option Ob) := some (bO S.A S.mute) :: some (sO S.A) :: o2 :: none :: none :: none :: none :: none :: obA S.A
def famB (l : List Tk) (k : Nat) (S : Bs) : ES := ⟨72, [(4, .ptr 0 0 0), (22, .lst (l.map tokA)), (23, .int .i64 (l.map tokA).length), (24, .int .i64 k)], hpB S none⟩
def factB (l : List Tk) (k : Nat) (S : Bs) : Prop := k ≤ l.length ∧ Wf S.A ∧ S.A.length ≤ 150 ∧ totX S.A + totT (l.drop k) ≤ totT l ∧ runB l ⟨[], []⟩ = runB (l.drop k) S
theorem hpB_end (S : Bs) (t : Tk) (b : Bool) : (killH 2 (hpB S (some (.row 5 [tokL t b])))).set 2 none = hpB S none := by
  unfold hpB bO sO
  simp only [killH, Ob.kill, killL, pts_kill (show 2 < 8 by decide), obA_kill (show 2 < 8 by decide)]
  simp [V.kill, killL]
def treeV (A : List Rc) : List Nd := treeN A (A.length + 2) 0
def builtV (l : List Tk) : V := match buildB l with | .inl c => .tup [.lst [], .int .i64 c] | .inr A => .tup [.lst (nodesL (treeV A)), .int .i64 0]
set_option maxHeartbeats 16000000 in
theorem tree_build (l : List Tk) (hx : totT l ≤ 1048576) (hat : ∀ t ∈ l, t.attrs.length ≤ 1048576) : Fn1G Tryd.prog GT 4 [.lst (l.map tokA)] (fun r => r = builtV l) := by
  have hlm : (l.map tokA).length = l.length := by simp
  refine fn1G_nl ?_
  by_cases h300 : 300 < l.length
  · have hb : builtV l = .tup [.lst [], .int .i64 1] := by unfold builtV buildB; rw [if_pos h300]
    rw [hb]
    refine fn1GE (T := Tryd.tt) Tryd.func4 rfl tt_all follows_all ?_ ?_ fun C hC hW hG hE => ?_
    · kernel_rfl
    · exact Nat.le_of_ble_eq_true (by kernel_rfl)
    conv => whnf
    repeat' (first | (refine brd_t (by first | assumption | omega) ?_; conv => whnf) | (refine brd_f (by first | assumption | omega) ?_; conv => whnf) | (refine ask (by first | assumption | omega) ?_; conv => whnf) | (refine fit64 (by omega) ?_; conv => whnf) | (refine fit (by simp only [kmin, kmax]; omega) ?_; conv => whnf) | (refine br_t (by assumption) ?_; conv => whnf) | (refine br_f (by assumption) ?_; conv => whnf) | (refine get_of (by assumption) ?_; conv => whnf) | (refine get_map (by assumption) ?_; conv => whnf) | (refine draw_lex hE ?_ ?_; decide +kernel; conv => whnf) | (refine draw_any hE [⟨0, [(0, none), (1, none), (2, none), (3, none), (4, none), (5, none), (6, none)], none, [], [[]], []⟩] ?_ ?_; decide +kernel; conv => whnf) | (refine brd (fun h => ?_) (fun h => ?_) <;> conv => whnf) | (refine br (fun h => ?_) (fun h => ?_) <;> conv => whnf) | (refine ret_now hE ?_; conv => whnf) | (intro hlen; conv => whnf) | (refine seg_here ?_; conv => whnf) | (refine both ?_ ?_ <;> conv => whnf))
    exact ⟨rfl, by simp [V.nl, nlL]⟩
  have hbl : buildB l = runB l ⟨[], []⟩ := if_neg h300
  refine fn1GE (T := Tryd.tt) Tryd.func4 rfl tt_all follows_all ?_ ?_ fun C hC hW0 hG hE => ?_
  · kernel_rfl
  · exact Nat.le_of_ble_eq_true (by kernel_rfl)
  conv => whnf
  repeat' (first | (refine brd_t (by first | assumption | omega) ?_; conv => whnf) | (refine brd_f (by first | assumption | omega) ?_; conv => whnf) | (refine ask (by first | assumption | omega) ?_; conv => whnf) | (refine fit64 (by omega) ?_; conv => whnf) | (refine fit (by simp only [kmin, kmax]; omega) ?_; conv => whnf) | (refine br_t (by assumption) ?_; conv => whnf) | (refine br_f (by assumption) ?_; conv => whnf) | (refine get_of (by assumption) ?_; conv => whnf) | (refine get_map (by assumption) ?_; conv => whnf) | (refine draw_lex hE ?_ ?_; decide +kernel; conv => whnf) | (refine draw_any hE [⟨0, [(0, none), (1, none), (2, none), (3, none), (4, none), (5, none), (6, none)], none, [], [[]], []⟩] ?_ ?_; decide +kernel; conv => whnf) | (refine brd (fun h => ?_) (fun h => ?_) <;> conv => whnf) | (refine br (fun h => ?_) (fun h => ?_) <;> conv => whnf) | (refine ret_now hE ?_; conv => whnf) | (intro hlen; conv => whnf) | (refine seg_here ?_; conv => whnf) | (refine both ?_ ?_ <;> conv => whnf))
  refine loopE (fun ((k, S) : Nat × Bs) => famB l k S) (fun (k, S) => factB l k S) (fun (k, _) => l.length - k) (0, ⟨[], []⟩) hE ?_ ?_ ⟨Nat.zero_le _, Wf.nil, by simp, by simp [totX], by simp⟩ ?_
  · kernel_rfl
  · refine up_to' [4, 22, 23, 24] (up_spare (up_spare (up_spare (up_spare (up_spare (up_spare (up_spare ?_)))))))
    refine up_eq (σ' := ⟨72, [(4, .ptr 1 0 0), (22, .lst (l.map tokA)), (23, .int .i64 (l.map tokA).length), (24, .int .i64 0)], [some (.row 4 [.agg [.nilp, .nils, .str [], .bool false]]), some (.row 4 [.agg [.ptr 0 0 0, .sl 2 0 1, .int .i64 0, .str []]]), some (.row 1 [.ptr 0 0 0]), none, none, none, none, none, none, none]⟩) ?_ rfl
    refine up_move 0 8 (by decide) (o := .row 4 [.agg [.nilp, .nils, .str [], .bool false]]) rfl rfl ?_
    refine up_eq (σ' := ⟨72, [(4, .ptr 1 0 0), (22, .lst (l.map tokA)), (23, .int .i64 (l.map tokA).length), (24, .int .i64 0)], [none, some (.row 4 [.agg [.ptr 8 0 0, .sl 2 0 1, .int .i64 0, .str []]]), some (.row 1 [.ptr 8 0 0]), none, none, none, none, none, some (.row 4 [.agg [.nilp, .nils, .str [], .bool false]]), none]⟩) ?_ rfl
    refine up_move 1 0 (by decide) (o := .row 4 [.agg [.ptr 8 0 0, .sl 2 0 1, .int .i64 0, .str []]]) rfl rfl ?_
    refine up_eq (σ' := ⟨72, [(4, .ptr 0 0 0), (22, .lst (l.map tokA)), (23, .int .i64 (l.map tokA).length), (24, .int .i64 0)], [some (.row 4 [.agg [.ptr 8 0 0, .sl 2 0 1, .int .i64 0, .str []]]), none, some (.row 1 [.ptr 8 0 0]), none, none, none, none, none, some (.row 4 [.agg [.nilp, .nils, .str [], .bool false]]), none]⟩) ?_ rfl
    refine up_move 2 1 (by decide) (o := .row 1 [.ptr 8 0 0]) rfl rfl ?_
    refine up_eq (σ' := ⟨72, [(4, .ptr 0 0 0), (22, .lst (l.map tokA)), (23, .int .i64 (l.map tokA).length), (24, .int .i64 0)], [some (.row 4 [.agg [.ptr 8 0 0, .sl 1 0 1, .int .i64 0, .str []]]), some (.row 1 [.ptr 8 0 0]), none, none, none, none, none, none, some (.row 4 [.agg [.nilp, .nils, .str [], .bool false]]), none]⟩) ?_ rfl
    refine up_ownF 8 1 1 (z := 4) (l := [.nilp, .nils, .str [], .bool false]) rfl rfl ?_
    refine up_eq (σ' := ⟨72, [(4, .ptr 0 0 0), (22, .lst (l.map tokA)), (23, .int .i64 (l.map tokA).length), (24, .int .i64 0)], [some (.row 4 [.agg [.ptr 8 0 0, .sl 1 0 1, .int .i64 0, .str []]]), some (.row 1 [.ptr 8 0 0]), some (.row 1 []), none, none, none, none, none, some (.row 4 [.agg [.nilp, .sl 2 0 0, .str [], .bool false]]), none]⟩) ?_ rfl
    refine up_move 2 9 (by decide) (o := .row 1 []) rfl rfl ?_
    refine up_eq (σ' := ⟨72, [(4, .ptr 0 0 0), (22, .lst (l.map tokA)), (23, .int .i64 (l.map tokA).length), (24, .int .i64 0)], [some (.row 4 [.agg [.ptr 8 0 0, .sl 1 0 1, .int .i64 0, .str []]]), some (.row 1 [.ptr 8 0 0]), none, none, none, none, none, none, some (.row 4 [.agg [.nilp, .sl 9 0 0, .str [], .bool false]]), some (.row 1 [])]⟩) ?_ rfl
    exact up_here rfl
  rintro ⟨k, S⟩ ⟨hk, hW, hA, hT, hR⟩
  by_cases hlt : k < l.length
  · obtain ⟨t, ht⟩ : ∃ t, l[k]? = some t := ⟨_, List.getElem?_eq_getElem hlt⟩
    have hdr := drop_at ht
    have hatt := hat t (List.mem_of_getElem? ht)
    have htt : totT (l.drop k) = t.text.length + totT (l.drop (k + 1)) := by rw [hdr]; simp [totT]
    rw [hdr, runB_cons] at hR
    have hGb : FnC C 18 [.gsl 0 9, .str t.name] (fun r => r = .bool (decide (t.name ∈ blkL))) := Fn1G.c (contains_gsl _ blkL t.name (by decide)) hC hW0 (keptGB _ _) hG.1
    have hGv : FnC C 18 [.gsl 1 4, .str t.name] (fun r => r = .bool (decide (t.name ∈ vodL))) := Fn1G.c (contains_gsl _ vodL t.name (by decide)) hC hW0 (keptGB _ _) hG.2
    have hLk : ∀ (X : List V) (x y : Int) (k : Nat), (k = 1 ∨ 8 ≤ k) → killL k [.ptr 0 0 0, .ptr 2 0 0, .lst X, .int .i64 x, .int .i64 y] = [.ptr 0 0 0, .ptr 2 0 0, .lst X, .int .i64 x, .int .i64 y] := by
      intro X x y k hk
      simp only [killL, V.kill]
      rw [if_neg (by omega), if_neg (by omega)]
    have hs1 : t.kind = 1 → stepB t S = some (startB t S) := fun h => if_pos h
    have hs2 : ¬ t.kind = 1 → t.kind = 2 → stepB t S = some (endB t S) := fun h1 h2 => by unfold stepB; rw [if_neg h1, if_pos h2]
    have hs3 : ¬ t.kind = 1 → ¬ t.kind = 2 → t.kind = 3 → stepB t S = some (charsB t.text S) := fun h1 h2 h3 => by unfold stepB; rw [if_neg h1, if_neg h2, if_pos h3]
    have hs4 : ¬ t.kind = 1 → ¬ t.kind = 2 → ¬ t.kind = 3 → t.kind = 4 → stepB t S = some S := fun h1 h2 h3 h4 => by unfold stepB; rw [if_neg h1, if_neg h2, if_neg h3, if_pos h4]
    have hs5 : ¬ t.kind = 1 → ¬ t.kind = 2 → ¬ t.kind = 3 → ¬ t.kind = 4 → stepB t S = none := fun h1 h2 h3 h4 => by unfold stepB; rw [if_neg h1, if_neg h2, if_neg h3, if_neg h4]
    have errK : stepB t S = none → builtV l = .tup [.lst [], .int .i64 3] := fun h => by
      rw [h] at hR
      unfold builtV
      rw [hbl, hR]
    have errS : ∀ S', stepB t S = some S' → 150 < S'.A.length → builtV l = .tup [.lst [], .int .i64 1] := fun S' h hl => by
      rw [h] at hR
      simp only at hR
      rw [if_pos hl] at hR
      unfold builtV
      rw [hbl, hR]
    have hnx : ∀ S', stepB t S = some S' → ¬ 150 < S'.A.length → factB l (k + 1) S' := fun S' h hl => by
      obtain ⟨w1, w2, w3⟩ := step_ok hW h
      rw [h] at hR
      simp only at hR
      rw [if_neg hl] at hR
      exact ⟨hlt, w1, by omega, by omega, hR⟩
    have big : ∀ n : Nat, (150 : Int) < n → 150 < n := fun n h => by omega
    have small : ∀ n : Nat, ¬ (150 : Int) < n → ¬ 150 < n := fun n h => by omega
    have hend : ∀ (S' : Bs) (h : List (Option Ob)), h = hpB S' (some (.row 5 [tokL t t.self])) → ∀ {u : List (Nat × V)}, ((keepU [4, 22, 23, 24] u).map fun p => (p.1, p.2.kill 2)) = [(4, .ptr 0 0 0), (22, .lst (l.map tokA)), (23, .int .i64 (l.map tokA).length), (24, .int .i64 ((k + 1 : Nat) : Int))] →
        (⟨72, (keepU [4, 22, 23, 24] u).map fun p => (p.1, p.2.kill 2), (killH 2 h).set 2 none⟩ : ES) = famB l (k + 1) S' := by
      intro S' h hh u hu
      rw [hu, hh, hpB_end]
      rfl
    have hT1' : obA S.A = obA (endB t S).A := (obA_shut _ _).symm
    show eCode _ _ _ _ (⟨72, [(4, .ptr 0 0 0), (22, .lst (l.map tokA)), (23, .int .i64 (l.map tokA).length), (24, .int .i64 k)], some (.row 4 [.agg [.ptr 8 0 0, .sl 1 0 (stk S.A).length, .int .i64 S.A.length, .str S.mute]]) :: some (.row 1 ((stk S.A).map ptV)) :: none :: none :: none :: none :: none :: none :: obA S.A⟩ : ES)
    generalize hT0 : obA S.A = T0
    have hT1 : T0 = obA (endB t S).A := hT0 ▸ hT1'
    conv => whnf
    repeat' (first | (refine brd_t (by first | assumption | omega) ?_; conv => whnf) | (refine brd_f (by first | assumption | omega) ?_; conv => whnf) | (refine ask (by first | assumption | omega) ?_; conv => whnf) | (refine fit64 (by omega) ?_; conv => whnf) | (refine fit (by simp only [kmin, kmax]; omega) ?_; conv => whnf) | (refine br_t (by assumption) ?_; conv => whnf) | (refine br_f (by assumption) ?_; conv => whnf) | (refine get_of (by assumption) ?_; conv => whnf) | (refine get_map (by assumption) ?_; conv => whnf) | (refine fH_go ?_; conv => whnf) | (refine fL0_go (fH_go ?_); conv => whnf) | (refine call_start t S hW (by omega) (by omega) hE hC hGb hGv [4, 6, 22, 23, 24] ?_ ?_ rfl ?_ hT0 ?_ ?_; rfl; exact hLk _ _ _; kernel_rfl; kernel_rfl; conv => whnf) | (refine call_chars t t.self t.text S hW (by omega) (by omega) hE hC [4, 6, 22, 23, 24] ?_ ?_ ?_ hT0 ?_ ?_; rfl; exact hLk _ _ _; kernel_rfl; kernel_rfl; conv => whnf) | (refine call_find S.A S.mute t.name hW.opn hC (by kernel_rfl) rfl rfl (fun _ => by rw [hT0]; rfl) ?_; conv => whnf) | (refine call_close S.A S.mute t.name (by omega) hE hC [4, 6, 22, 23, 24] rfl rfl rfl ?_; conv => whnf) | (refine draw_lex hE ?_ ?_; decide +kernel; conv => whnf) | (refine draw_any hE [⟨0, [(0, none), (1, none), (2, none), (3, none), (4, none), (5, none), (6, none)], none, [], [[]], []⟩] ?_ ?_; decide +kernel; conv => whnf) | (refine brd (fun h => ?_) (fun h => ?_) <;> conv => whnf) | (refine br (fun h => ?_) (fun h => ?_) <;> conv => whnf) | (refine ret_now hE ?_; conv => whnf) | (intro hlen; conv => whnf) | (refine seg_here ?_; conv => whnf) | (refine both ?_ ?_ <;> conv => whnf))
    all_goals first
      | (refine ⟨rfl, ?_⟩; rw [errS _ (hs1 (by assumption)) (big _ (by assumption))]; simp [V.nl, nlL]; done)
      | (refine ⟨rfl, ?_⟩; rw [errS _ (hs2 (by assumption) (by assumption)) (big _ (by assumption))]; simp [V.nl, nlL]; done)
      | (refine ⟨rfl, ?_⟩; rw [errS _ (hs3 (by assumption) (by assumption) (by assumption)) (big _ (by assumption))]; simp [V.nl, nlL]; done)
      | (refine ⟨rfl, ?_⟩; rw [errK (hs5 (by assumption) (by assumption) (by assumption) (by assumption))]; simp [V.nl, nlL]; done)
      | skip
    · refine up_to' [4, 22, 23, 24] (up_drop 2 (up_eq (σ' := famB l (k + 1) (startB t S)) (up_here ⟨(k + 1, startB t S), hnx _ (hs1 (by assumption)) (small _ (by assumption)), (show l.length - (k + 1) < l.length - k by omega), rfl⟩) (hend _ _ rfl rfl)))
    · rw [hT1]
      refine up_to' [4, 22, 23, 24] (up_drop 2 (up_eq (σ' := famB l (k + 1) (endB t S)) (up_here ⟨(k + 1, endB t S), hnx _ (hs2 (by assumption) (by assumption)) (small _ (by assumption)), (show l.length - (k + 1) < l.length - k by omega), rfl⟩) (hend _ _ (by unfold hpB bO sO endB; rw [if_pos (by assumption)]; rfl) rfl)))
    · rw [hT1]
      refine up_to' [4, 22, 23, 24] (up_drop 2 (up_eq (σ' := famB l (k + 1) (endB t S)) (up_here ⟨(k + 1, endB t S), hnx _ (hs2 (by assumption) (by assumption)) (small _ (by assumption)), (show l.length - (k + 1) < l.length - k by omega), rfl⟩) (hend _ _ (by unfold hpB bO sO endB; rw [if_neg (by assumption)]; rfl) rfl)))
    · refine up_to' [4, 22, 23, 24] (up_drop 2 (up_eq (σ' := famB l (k + 1) (charsB t.text S)) (up_here ⟨(k + 1, charsB t.text S), hnx _ (hs3 (by assumption) (by assumption) (by assumption)) (small _ (by assumption)), (show l.length - (k + 1) < l.length - k by omega), rfl⟩) (hend _ _ rfl rfl)))
    · rw [← hT0]
      refine up_to' [4, 22, 23, 24] (up_drop 2 (up_eq (σ' := famB l (k + 1) S) (up_here ⟨(k + 1, S), hnx _ (hs4 (by assumption) (by assumption) (by assumption) (by assumption)) (by omega), (show l.length - (k + 1) < l.length - k by omega), rfl⟩) (hend _ _ rfl rfl)))
  · have hkl : k = l.length := by omega
    have hdr : l.drop k = [] := List.drop_of_length_le (by omega)
    rw [hdr] at hR
    have hb : builtV l = .tup [.lst (nodesL (treeV S.A)), .int .i64 0] := by
      unfold builtV
      rw [hbl, hR]
      rfl
    rw [hb]
    have hnf := nodes_fn hW (by omega) (S.A.length + 2) 0 (by omega) (by omega)
    have hsee : See (hpB S none) (.ptr 8 0 0) (frV S.A (S.A.length + 2) 0) := see_tree hW (h := hpB S none) (fun i => rfl) (S.A.length + 2) 0 (by omega)
    show eCode _ _ _ _ (⟨72, [(4, .ptr 0 0 0), (22, .lst (l.map tokA)), (23, .int .i64 (l.map tokA).length), (24, .int .i64 k)], some (.row 4 [.agg [.ptr 8 0 0, .sl 1 0 (stk S.A).length, .int .i64 S.A.length, .str S.mute]]) :: some (.row 1 ((stk S.A).map ptV)) :: none :: none :: none :: none :: none :: none :: obA S.A⟩ : ES)
    have hrp : ∃ l', frV S.A (S.A.length + 2) 0 = .rp l' := ⟨_, rfl⟩
    unfold hpB bO sO at hsee
    unfold treeV
    generalize obA S.A = T0 at *
    obtain ⟨l', hl'⟩ := hrp
    rw [hl'] at hnf hsee
    conv => whnf
    repeat' (first | (refine brd_t (by first | assumption | omega) ?_; conv => whnf) | (refine brd_f (by first | assumption | omega) ?_; conv => whnf) | (refine ask (by first | assumption | omega) ?_; conv => whnf) | (refine fit64 (by omega) ?_; conv => whnf) | (refine fit (by simp only [kmin, kmax]; omega) ?_; conv => whnf) | (refine br_t (by assumption) ?_; conv => whnf) | (refine br_f (by assumption) ?_; conv => whnf) | (refine get_of (by assumption) ?_; conv => whnf) | (refine get_map (by assumption) ?_; conv => whnf) | (refine fH_go ?_; conv => whnf) | (refine fL0_go (fH_go ?_); conv => whnf) | (refine draw_lex hE ?_ ?_; decide +kernel; conv => whnf) | (refine draw_any hE [⟨0, [(0, none), (1, none), (2, none), (3, none), (4, none), (5, none), (6, none)], none, [], [[]], []⟩] ?_ ?_; decide +kernel; conv => whnf) | (refine brd (fun h => ?_) (fun h => ?_) <;> conv => whnf) | (refine br (fun h => ?_) (fun h => ?_) <;> conv => whnf) | (refine ret_now hE ?_; conv => whnf) | (intro hlen; conv => whnf) | (refine seg_here ?_; conv => whnf) | (refine both ?_ ?_ <;> conv => whnf))
    refine call_up (up_seen [(70, .rp l')] (fun q y h => ?_) (up_here ?_))
    · obtain ⟨rfl, rfl⟩ := Prod.mk.inj (List.mem_singleton.1 h)
      exact hsee
    conv => whnf
    repeat' (first | (refine brd_t (by first | assumption | omega) ?_; conv => whnf) | (refine brd_f (by first | assumption | omega) ?_; conv => whnf) | (refine ask (by first | assumption | omega) ?_; conv => whnf) | (refine fit64 (by omega) ?_; conv => whnf) | (refine fit (by simp only [kmin, kmax]; omega) ?_; conv => whnf) | (refine br_t (by assumption) ?_; conv => whnf) | (refine br_f (by assumption) ?_; conv => whnf) | (refine get_of (by assumption) ?_; conv => whnf) | (refine get_map (by assumption) ?_; conv => whnf) | (refine fL0_go ?_; conv => whnf) | (refine call_eq (hnf) hC hasBody_11 ?_ ?_ ?_; kernel_rfl; kernel_rfl; conv => whnf) | (refine callq_eq (hnf) hC hasBody_11 ?_ ?_ ?_; kernel_rfl; kernel_rfl; conv => whnf) | (refine draw_lex hE ?_ ?_; decide +kernel; conv => whnf) | (refine draw_any hE [⟨0, [(0, none), (1, none), (2, none), (3, none), (4, none), (5, none), (6, none)], none, [], [[]], []⟩] ?_ ?_; decide +kernel; conv => whnf) | (refine brd (fun h => ?_) (fun h => ?_) <;> conv => whnf) | (refine br (fun h => ?_) (fun h => ?_) <;> conv => whnf) | (refine ret_now hE ?_; conv => whnf) | (intro hlen; conv => whnf) | (refine seg_here ?_; conv => whnf) | (refine both ?_ ?_ <;> conv => whnf))
    exact ⟨rfl, by simp [V.nl, nlL, nl_nodes]⟩
end Go.Proofs.YtbdogoccjcifnaaDoor
