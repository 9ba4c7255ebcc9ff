/- style.Only and the document's StyleOnly, walked; the law StyleOnlies. No conditions. -/
import Derived.Test.YteabokphchpifaaData
import Derived.Test.YteabokphchpifaaAwy
set_option linter.unusedSimpArgs false
set_option linter.unusedVariables false
set_option maxRecDepth 100000
namespace Go.Proofs.Yteabokphchpifaa
open Go.RowKit

structure De where
  name : List UInt8
  value : List UInt8
def deA (a : De) : V := .agg [.str a.name, .str a.value]
theorem cells_des (l : List De) : ∀ y ∈ l.map deA, y.cells.length = 2 := fun y hy => by obtain ⟨q, _, rfl⟩ := List.mem_map.1 hy; rfl
theorem nl_des : ∀ l : List De, nlL (l.map deA) = l.map deA
  | [] => by simp [nlL]
  | a :: l => by simp [nlL, V.nl, deA, nl_des l]
theorem nr_des (l : List De) : nrL (l.map deA) := by
  rw [nrL_mem]
  intro x hx
  obtain ⟨q, _, rfl⟩ := List.mem_map.1 hx
  exact ⟨trivial, trivial, trivial⟩
theorem kill_des (id : Nat) (l : List De) : killL id (l.map deA) = l.map deA := kill_nrL id (nr_des l)
theorem nr_strs (l : List (List UInt8)) : nrL (l.map V.str) := by
  rw [nrL_mem]
  intro x hx
  obtain ⟨q, _, rfl⟩ := List.mem_map.1 hx
  exact trivial
theorem kill_strs (id : Nat) (l : List (List UInt8)) : killL id (l.map V.str) = l.map V.str := kill_nrL id (nr_strs l)
def onlyF (names : List (List UInt8)) : List De → List De
  | [] => []
  | d :: ds => if d.name ∈ names ∧ (ds.any fun e => decide (e.name = d.name)) = false then d :: onlyF names ds else onlyF names ds
theorem onlyF_len (names : List (List UInt8)) : ∀ l, (onlyF names l).length ≤ l.length
  | [] => by simp [onlyF]
  | d :: ds => by rw [onlyF]; have := onlyF_len names ds; split <;> simp <;> omega
theorem onlyF_step {names : List (List UInt8)} {l : List De} {k : Nat} {x : De} (hx : l[k]? = some x) : onlyF names (l.drop k) = if x.name ∈ names ∧ ((l.drop (k + 1)).any fun e => decide (e.name = x.name)) = false then x :: onlyF names (l.drop (k + 1)) else onlyF names (l.drop (k + 1)) := by
  obtain ⟨hlt, rfl⟩ := List.getElem?_eq_some_iff.1 hx
  rw [List.drop_eq_getElem_cons hlt, onlyF]
def onlyR (l : List De) (names : List (List UInt8)) : V := if 40 < names.length then .tup [.lst [], .int .i64 1] else .tup [.lst ((onlyF names l).map deA), .int .i64 0]

theorem only1 (q x : De) : Fn1 Try.prog 51 [deA q, .rp [.str x.name, .str x.value]] (fun r => r = .bool (decide (q.name = x.name))) := by
  refine fn1E (T := Try.tt) Try.func51 rfl tt_all follows_all ?_ ?_ fun C hC hE => ?_
  · kernel_rfl
  · exact Nat.le_of_ble_eq_true (by kernel_rfl)
  conv => whnf
  repeat' (first | (refine brd_t (by first | assumption | omega) ?_; conv => whnf) | (refine brd_f (by first | assumption | omega) ?_; conv => whnf) | (refine ask (by first | assumption | omega) ?_; conv => whnf) | (refine fit64 (by omega) ?_; conv => whnf) | (refine fit (by simp only [kmin, kmax]; omega) ?_; conv => whnf) | (refine br_t (by assumption) ?_; conv => whnf) | (refine br_f (by assumption) ?_; conv => whnf) | (refine get_of (by assumption) ?_; conv => whnf) | (refine get_map (by assumption) ?_; conv => whnf) | (refine brd (fun h => ?_) (fun h => ?_) <;> conv => whnf) | (refine br (fun h => ?_) (fun h => ?_) <;> conv => whnf) | (refine ret_now hE ?_; conv => whnf) | (intro hlen; conv => whnf))
  all_goals exact ⟨rfl, by congr 1; rw [eq_comm]; simp; first | assumption | (rw [eq_comm]; assumption) | (intro h; exact absurd h.symm (by assumption))⟩
theorem index_str (l : List (List UInt8)) (q : List UInt8) : Fn1 Try.prog 70 [.lst (l.map V.str), .str q] (fun r => r = .int .i64 (idxOf (fun x => decide (q = x)) l)) := by
  refine fn1E (T := Try.tt) Try.func70 rfl tt_all follows_all ?_ ?_ fun C hC hE => ?_
  · kernel_rfl
  · exact Nat.le_of_ble_eq_true (by kernel_rfl)
  conv => whnf
  intro hl
  conv => whnf
  refine loopE (fun k : Nat => ⟨19, [(0, .lst (l.map V.str)), (1, .str q), (7, .int .i64 (l.map V.str).length), (8, .int .i64 k)], []⟩) (fun k => k ≤ l.length ∧ ∀ j < k, ∀ x, l[j]? = some x → decide (q = x) = false) (fun k => l.length - k) 0 hE ?_ ?_ ?_ ?_
  · kernel_rfl
  · exact at_keep [0, 1, 7, 8] rfl
  · exact ⟨Nat.zero_le _, fun j hj => by omega⟩
  intro k hkj
  obtain ⟨hk, hj⟩ := hkj
  have hlm : (l.map V.str).length = l.length := by simp
  by_cases hlt : k < l.length
  · obtain ⟨x, hx⟩ : ∃ x, l[k]? = some x := ⟨_, List.getElem?_eq_getElem hlt⟩
    conv => whnf
    repeat' (first | (refine brd_t (by first | assumption | omega) ?_; conv => whnf) | (refine brd_f (by first | assumption | omega) ?_; conv => whnf) | (refine ask (by first | assumption | omega) ?_; conv => whnf) | (refine fit64 (by omega) ?_; conv => whnf) | (refine fit (by simp only [kmin, kmax]; omega) ?_; conv => whnf) | (refine br_t (by assumption) ?_; conv => whnf) | (refine br_f (by assumption) ?_; conv => whnf) | (refine get_of (by assumption) ?_; conv => whnf) | (refine get_map (by assumption) ?_; conv => whnf) | (refine brd (fun h => ?_) (fun h => ?_) <;> conv => whnf) | (refine br (fun h => ?_) (fun h => ?_) <;> conv => whnf) | (refine ret_now hE ?_; conv => whnf) | (intro hlen; conv => whnf))
    · exact ⟨rfl, by rw [idxOf_hit hx (decide_eq_true (by assumption)) hj]⟩
    · refine next_keep [0, 1, 7, 8] (k + 1) ⟨hlt, ?_⟩ (by omega) rfl
      intro j hjk y hy
      by_cases e : j = k
      · subst e; rw [hx] at hy; cases hy; exact decide_eq_false (by assumption)
      · exact hj j (by omega) y hy
  · conv => whnf
    repeat' (first | (refine brd_t (by first | assumption | omega) ?_; conv => whnf) | (refine brd_f (by first | assumption | omega) ?_; conv => whnf) | (refine ask (by first | assumption | omega) ?_; conv => whnf) | (refine fit64 (by omega) ?_; conv => whnf) | (refine fit (by simp only [kmin, kmax]; omega) ?_; conv => whnf) | (refine br_t (by assumption) ?_; conv => whnf) | (refine br_f (by assumption) ?_; conv => whnf) | (refine get_of (by assumption) ?_; conv => whnf) | (refine get_map (by assumption) ?_; conv => whnf) | (refine brd (fun h => ?_) (fun h => ?_) <;> conv => whnf) | (refine br (fun h => ?_) (fun h => ?_) <;> conv => whnf) | (refine ret_now hE ?_; conv => whnf) | (intro hlen; conv => whnf))
    exact ⟨rfl, by rw [idxOf_miss (fun x hx => by obtain ⟨j, hj'⟩ := List.mem_iff_getElem?.1 hx; exact hj j (by have := (List.getElem?_eq_some_iff.1 hj').1; omega) x hj')]⟩

theorem contains_str (l : List (List UInt8)) (q : List UInt8) : Fn1 Try.prog 52 [.lst (l.map V.str), .str q] (fun r => r = .bool (decide (q ∈ l))) := by
  have ha := idxOf_any (fun x => decide (q = x)) l
  have hb : decide (q ∈ l) = l.any (fun x => decide (q = x)) := by rw [Bool.eq_iff_iff]; simp
  refine fn1E (T := Try.tt) Try.func52 rfl tt_all follows_all ?_ ?_ fun C hC hE => ?_
  · kernel_rfl
  · exact Nat.le_of_ble_eq_true (by kernel_rfl)
  conv => whnf
  repeat' (first | (refine brd_t (by first | assumption | omega) ?_; conv => whnf) | (refine brd_f (by first | assumption | omega) ?_; conv => whnf) | (refine ask (by first | assumption | omega) ?_; conv => whnf) | (refine fit64 (by omega) ?_; conv => whnf) | (refine fit (by simp only [kmin, kmax]; omega) ?_; conv => whnf) | (refine br_t (by assumption) ?_; conv => whnf) | (refine br_f (by assumption) ?_; conv => whnf) | (refine get_of (by assumption) ?_; conv => whnf) | (refine get_map (by assumption) ?_; conv => whnf) | (refine call_eq (index_str _ _) hC hasBody_70 ?_ ?_ ?_; kernel_rfl; kernel_rfl; conv => whnf) | (refine callq_eq (index_str _ _) hC hasBody_70 ?_ ?_ ?_; kernel_rfl; kernel_rfl; conv => whnf) | (refine brd (fun h => ?_) (fun h => ?_) <;> conv => whnf) | (refine br (fun h => ?_) (fun h => ?_) <;> conv => whnf) | (refine ret_now hE ?_; conv => whnf) | (intro hlen; conv => whnf))
  all_goals exact ⟨rfl, by rw [hb, ← ha]; congr 1; first | exact (decide_eq_true (by assumption)).symm | exact (decide_eq_false (by assumption)).symm⟩

theorem indexFunc_69 (l : List De) (h : FuncId) (caps : List V) (p : De → Bool) (hb : hasBody Try.prog h = true) (hc : nrB caps = true) (hp : ∀ a ∈ l, Fn1 Try.prog h (deA a :: caps) (fun r => r = .bool (p a))) :
    Fn1 Try.prog 69 [.lst (l.map deA), .fn h caps] (fun r => r = .int .i64 (idxOf p l)) := by
  refine fn1E (T := Try.tt) Try.func69 rfl tt_all follows_all ?_ ?_ fun C hC hE => ?_
  · kernel_rfl
  · exact Nat.le_of_ble_eq_true (by kernel_rfl)
  conv => whnf
  intro hl
  conv => whnf
  refine loopE (fun k : Nat => ⟨19, [(0, .lst (l.map deA)), (1, .fn h caps), (7, .int .i64 (l.map deA).length), (8, .int .i64 k)], []⟩) (fun k => k ≤ l.length ∧ ∀ j < k, ∀ x, l[j]? = some x → p x = false) (fun k => l.length - k) 0 hE ?_ ?_ ?_ ?_
  · kernel_rfl
  · exact at_keep [0, 1, 7, 8] rfl
  · exact ⟨Nat.zero_le _, fun j hj => by omega⟩
  intro k hkj
  obtain ⟨hk, hj⟩ := hkj
  have hlm : (l.map deA).length = l.length := by simp
  by_cases hlt : k < l.length
  · obtain ⟨x, hx⟩ : ∃ x, l[k]? = some x := ⟨_, List.getElem?_eq_getElem hlt⟩
    have hpx := hp x (List.mem_of_getElem? hx)
    conv => whnf
    repeat' (first | (refine brd_t (by first | assumption | omega) ?_; conv => whnf) | (refine brd_f (by first | assumption | omega) ?_; conv => whnf) | (refine ask (by first | assumption | omega) ?_; conv => whnf) | (refine fit64 (by omega) ?_; conv => whnf) | (refine fit (by simp only [kmin, kmax]; omega) ?_; conv => whnf) | (refine br_t (by assumption) ?_; conv => whnf) | (refine br_f (by assumption) ?_; conv => whnf) | (refine get_of (by assumption) ?_; conv => whnf) | (refine get_map (by assumption) ?_; conv => whnf) | (refine call_eq hpx hC hb ?_ ?_ ?_; kernel_rfl; exact nrB_tail (by kernel_rfl) hc; conv => whnf) | (refine brd (fun h => ?_) (fun h => ?_) <;> conv => whnf) | (refine br (fun h => ?_) (fun h => ?_) <;> conv => whnf) | (refine ret_now hE ?_; conv => whnf) | (intro hlen; conv => whnf))
    · exact ⟨rfl, by rw [idxOf_hit hx (by assumption) hj]⟩
    · refine next_keep [0, 1, 7, 8] (k + 1) ⟨hlt, ?_⟩ (by omega) rfl
      intro j hjk y hy
      by_cases e : j = k
      · subst e; rw [hx] at hy; cases hy; assumption
      · exact hj j (by omega) y hy
  · conv => whnf
    repeat' (first | (refine brd_t (by first | assumption | omega) ?_; conv => whnf) | (refine brd_f (by first | assumption | omega) ?_; conv => whnf) | (refine ask (by first | assumption | omega) ?_; conv => whnf) | (refine fit64 (by omega) ?_; conv => whnf) | (refine fit (by simp only [kmin, kmax]; omega) ?_; conv => whnf) | (refine br_t (by assumption) ?_; conv => whnf) | (refine br_f (by assumption) ?_; conv => whnf) | (refine get_of (by assumption) ?_; conv => whnf) | (refine get_map (by assumption) ?_; conv => whnf) | (refine brd (fun h => ?_) (fun h => ?_) <;> conv => whnf) | (refine br (fun h => ?_) (fun h => ?_) <;> conv => whnf) | (refine ret_now hE ?_; conv => whnf) | (intro hlen; conv => whnf))
    exact ⟨rfl, by rw [idxOf_miss (fun x hx => by obtain ⟨j, hj'⟩ := List.mem_iff_getElem?.1 hx; exact hj j (by have := (List.getElem?_eq_some_iff.1 hj').1; omega) x hj')]⟩

theorem containsFunc_50 (l : List De) (h : FuncId) (caps : List V) (p : De → Bool) (hb : hasBody Try.prog h = true) (hc : nrB caps = true) (hp : ∀ a ∈ l, Fn1 Try.prog h (deA a :: caps) (fun r => r = .bool (p a))) :
    Fn1 Try.prog 50 [.lst (l.map deA), .fn h caps] (fun r => r = .bool (l.any p)) := by
  have hi := indexFunc_69 l h caps p hb hc hp
  have ha := idxOf_any p l
  refine fn1E (T := Try.tt) Try.func50 rfl tt_all follows_all ?_ ?_ fun C hC hE => ?_
  · kernel_rfl
  · exact Nat.le_of_ble_eq_true (by kernel_rfl)
  conv => whnf
  repeat' (first | (refine brd_t (by first | assumption | omega) ?_; conv => whnf) | (refine brd_f (by first | assumption | omega) ?_; conv => whnf) | (refine ask (by first | assumption | omega) ?_; conv => whnf) | (refine fit64 (by omega) ?_; conv => whnf) | (refine fit (by simp only [kmin, kmax]; omega) ?_; conv => whnf) | (refine br_t (by assumption) ?_; conv => whnf) | (refine br_f (by assumption) ?_; conv => whnf) | (refine get_of (by assumption) ?_; conv => whnf) | (refine get_map (by assumption) ?_; conv => whnf) | (refine call_eq hi hC hasBody_69 ?_ ?_ ?_; kernel_rfl; exact nrB_fn rfl hc; conv => whnf) | (refine brd (fun h => ?_) (fun h => ?_) <;> conv => whnf) | (refine br (fun h => ?_) (fun h => ?_) <;> conv => whnf) | (refine ret_now hE ?_; conv => whnf) | (intro hlen; conv => whnf))
  all_goals exact ⟨rfl, by rw [← ha]; congr 1; first | exact (decide_eq_true (by assumption)).symm | exact (decide_eq_false (by assumption)).symm⟩

set_option maxHeartbeats 8000000 in
theorem style_only (l : List De) (names : List (List UInt8)) (hsz : l.length * 32 ≤ 140737488351232) : Fn1 Try.prog 29 [.lst (l.map deA), .lst (names.map V.str)] (fun r => r = onlyR l names) := by
  have hlm : (l.map deA).length = l.length := by simp
  have hnm : (names.map V.str).length = names.length := by simp
  refine fn1_nl ?_
  refine fn1E (T := Try.tt) Try.func29 rfl tt_all follows_all ?_ ?_ fun C hC hE => ?_
  · kernel_rfl
  · exact Nat.le_of_ble_eq_true (by kernel_rfl)
  conv => whnf
  repeat' (first | (refine brd_t (by first | assumption | omega) ?_; conv => whnf) | (refine brd_f (by first | assumption | omega) ?_; conv => whnf) | (refine ask (by first | assumption | omega) ?_; conv => whnf) | (refine fit64 (by omega) ?_; conv => whnf) | (refine fit (by simp only [kmin, kmax]; omega) ?_; conv => whnf) | (refine br_t (by assumption) ?_; conv => whnf) | (refine br_f (by assumption) ?_; conv => whnf) | (refine get_of (by assumption) ?_; conv => whnf) | (refine get_map (by assumption) ?_; conv => whnf) | (refine brd (fun h => ?_) (fun h => ?_) <;> conv => whnf) | (refine br (fun h => ?_) (fun h => ?_) <;> conv => whnf) | (refine ret_now hE ?_; conv => whnf) | (intro hlen; conv => whnf))
  · exact ⟨rfl, by unfold onlyR; rw [if_pos (by omega)]; rfl⟩
  refine loopE (fun ((k, out) : Nat × List De) => ⟨40, [(0, .lst (l.map deA)), (1, .lst (names.map V.str)), (6, .sl 0 0 out.length), (13, .lst (l.map deA)), (14, .int .i64 (l.map deA).length), (15, .int .i64 k)], [some (.row 2 (out.map deA))]⟩)
    (fun (k, out) => k ≤ l.length ∧ out.length ≤ k ∧ onlyF names l = out ++ onlyF names (l.drop k)) (fun (k, _) => l.length - k) (0, []) hE ?_ ?_ ⟨Nat.zero_le _, Nat.zero_le _, by simp⟩ ?_
  · kernel_rfl
  · exact up_own 6 2 rfl rfl (at_keep [0, 1, 6, 13, 14, 15] rfl)
  rintro ⟨k, out⟩ ⟨hk, ho, hI⟩
  have hom : (out.map deA).length = out.length := by simp
  by_cases hlt : k < l.length
  · obtain ⟨x, hx⟩ : ∃ x, l[k]? = some x := ⟨_, List.getElem?_eq_getElem hlt⟩
    have hcf := containsFunc_50 (l.drop (k + 1)) 51 [.rp [.str x.name, .str x.value]] (fun q => decide (q.name = x.name)) hasBody_51 rfl (fun q _ => only1 q x)
    obtain ⟨b, hb⟩ : ∃ b, ((l.drop (k + 1)).any fun q => decide (q.name = x.name)) = b := ⟨_, rfl⟩
    rw [hb] at hcf
    have hfz : frzL 1 [deA x] (out.map deA) = out.map deA := frz_nrL _ _ (nr_des out)
    have hst := onlyF_step (names := names) hx
    rw [hb] at hst
    conv => whnf
    repeat' (first | (refine brd_t (by first | assumption | omega) ?_; conv => whnf) | (refine brd_f (by first | assumption | omega) ?_; conv => whnf) | (refine ask (by first | assumption | omega) ?_; conv => whnf) | (refine fit64 (by omega) ?_; conv => whnf) | (refine fit (by simp only [kmin, kmax]; omega) ?_; conv => whnf) | (refine br_t (by assumption) ?_; conv => whnf) | (refine br_f (by assumption) ?_; conv => whnf) | (refine get_of (by assumption) ?_; conv => whnf) | (refine get_map (by assumption) ?_; conv => whnf) | (refine ⟨cells_des l, ?_⟩; conv => whnf) | (refine call_as hcf hC hasBody_50 ?_ ?_ ?_ ?_; (rw [List.map_drop]; rfl); kernel_rfl; kernel_rfl; conv => whnf) | (refine call_up (up_freeze 1 (z := 2) (els := [deA x]) rfl ?_ (up_here ?_)); exact ⟨⟨trivial, trivial, trivial⟩, trivial⟩; conv => whnf) | (refine call_eq (contains_str _ _) hC hasBody_52 ?_ ?_ ?_; kernel_rfl; kernel_rfl; conv => whnf) | (refine callq_eq (contains_str _ _) hC hasBody_52 ?_ ?_ ?_; kernel_rfl; kernel_rfl; conv => whnf) | (refine ask (Nat.le_refl 1) ?_; conv => whnf) | (refine ask ⟨?_, ?_, ?_⟩ ?_; (rw [hfz]; omega); (show out.length + 1 ≤ 9223372036854775807; omega); (show (out.length + 1) * 32 ≤ 140737488355328; omega); conv => whnf) | (refine brd (fun h => ?_) (fun h => ?_) <;> conv => whnf) | (refine br (fun h => ?_) (fun h => ?_) <;> conv => whnf) | (refine ret_now hE ?_; conv => whnf) | (intro hlen; conv => whnf))
    all_goals first
      | (have hs : ¬ (x.name ∈ names ∧ b = false) := by rintro ⟨h1, h2⟩; simp_all
         refine next_drop [0, 1, 6, 13, 14, 15] [] (k + 1, out) ⟨hlt, Nat.le_succ_of_le ho, hI.trans (by rw [hst, if_neg hs])⟩ (show l.length - (k + 1) < l.length - k by omega) ?_
         conv => whnf
         rw [hfz]
         rfl)
      | (have hs : x.name ∈ names ∧ b = false := by constructor <;> simp_all
         refine next_drop [0, 1, 6, 13, 14, 15] [1] (k + 1, out ++ [x]) ⟨hlt, (show (out ++ [x]).length ≤ k + 1 by simp; omega), hI.trans (by rw [hst, if_pos hs]; simp)⟩ (show l.length - (k + 1) < l.length - k by omega) ?_
         have e2 : killL 1 (killL 0 (List.take out.length (List.drop 0 (frzL 1 [deA x] (out.map deA))) ++ List.take 1 (List.drop 0 [V.agg [.str x.name, .str x.value]]))) = (out ++ [x]).map deA := by
           rw [hfz, List.drop_zero, List.take_of_length_le (by omega), show out.map deA ++ List.take 1 (List.drop 0 [V.agg [.str x.name, .str x.value]]) = (out ++ [x]).map deA from by rw [List.map_append]; rfl, kill_des, kill_des]
         conv => whnf
         rw [e2]
         show _ = (⟨40, [(0, .lst (l.map deA)), (1, .lst (names.map V.str)), (6, .sl 0 0 (out ++ [x]).length), (13, .lst (l.map deA)), (14, .int .i64 (l.map deA).length), (15, .int .i64 ((k + 1 : Nat) : Int))], [some (.row 2 ((out ++ [x]).map deA))]⟩ : ES)
         rw [List.length_append]
         rfl)
  · conv => whnf
    repeat' (first | (refine brd_t (by first | assumption | omega) ?_; conv => whnf) | (refine brd_f (by first | assumption | omega) ?_; conv => whnf) | (refine ask (by first | assumption | omega) ?_; conv => whnf) | (refine fit64 (by omega) ?_; conv => whnf) | (refine fit (by simp only [kmin, kmax]; omega) ?_; conv => whnf) | (refine br_t (by assumption) ?_; conv => whnf) | (refine br_f (by assumption) ?_; conv => whnf) | (refine get_of (by assumption) ?_; conv => whnf) | (refine get_map (by assumption) ?_; conv => whnf) | (refine ret_up (up_frzK 0 4 [5] rfl ?_ rfl ?_ rfl (up_here ?_)); exact nr_des _; omega) | (refine brd (fun h => ?_) (fun h => ?_) <;> conv => whnf) | (refine br (fun h => ?_) (fun h => ?_) <;> conv => whnf) | (refine ret_now hE ?_; conv => whnf) | (intro hlen; conv => whnf))
    refine ⟨rfl, ?_⟩
    unfold onlyR
    rw [if_neg (by omega), hI, List.drop_eq_nil_of_le (by omega)]
    simp [V.nl, nlL, nl_des, onlyF]
/-! ### The document's answer -/
theorem one_of (q : List UInt8) (L : List (List UInt8)) : Fn1 Try.prog 53 [.str q, .lst (L.map V.str)] (fun r => r = .bool (decide (q ∈ L))) := by
  have hlm : (L.map V.str).length = L.length := by simp
  refine fn1E (T := Try.tt) Try.func53 rfl tt_all follows_all ?_ ?_ fun C hC hE => ?_
  · kernel_rfl
  · exact Nat.le_of_ble_eq_true (by kernel_rfl)
  conv => whnf
  intro hl
  conv => whnf
  refine loopE (fun k : Nat => ⟨17, [(0, .str q), (7, .lst (L.map V.str)), (8, .int .i64 (L.map V.str).length), (9, .int .i64 k)], []⟩) (fun k => k ≤ L.length ∧ ∀ j < k, ∀ x, L[j]? = some x → x ≠ q) (fun k => L.length - k) 0 hE ?_ ?_ ⟨Nat.zero_le _, fun j hj => by omega⟩ ?_
  · kernel_rfl
  · exact at_keep [0, 7, 8, 9] rfl
  intro k hk
  obtain ⟨hk, hj⟩ := hk
  by_cases hlt : k < L.length
  · obtain ⟨x, hx⟩ : ∃ x, L[k]? = some x := ⟨_, List.getElem?_eq_getElem hlt⟩
    conv => whnf
    repeat' (first | (refine brd_t (by first | assumption | omega) ?_; conv => whnf) | (refine brd_f (by first | assumption | omega) ?_; conv => whnf) | (refine ask (by first | assumption | omega) ?_; conv => whnf) | (refine fit64 (by omega) ?_; conv => whnf) | (refine fit (by simp only [kmin, kmax]; omega) ?_; conv => whnf) | (refine br_t (by assumption) ?_; conv => whnf) | (refine br_f (by assumption) ?_; conv => whnf) | (refine get_of (by assumption) ?_; conv => whnf) | (refine get_map (by assumption) ?_; conv => whnf) | (refine brd (fun h => ?_) (fun h => ?_) <;> conv => whnf) | (refine br (fun h => ?_) (fun h => ?_) <;> conv => whnf) | (refine ret_now hE ?_; conv => whnf) | (intro hlen; conv => whnf))
    · refine ⟨rfl, ?_⟩
      have h : q = x := by assumption
      rw [h, decide_eq_true (List.mem_of_getElem? hx)]
    · refine next_keep [0, 7, 8, 9] (k + 1) ⟨hlt, fun j hjk x' hx' => ?_⟩ (by omega) rfl
      by_cases e : j = k
      · subst e; rw [hx] at hx'; cases hx'; exact fun h => absurd h.symm (by assumption)
      · exact hj j (by omega) x' hx'
  · conv => whnf
    repeat' (first | (refine brd_t (by first | assumption | omega) ?_; conv => whnf) | (refine brd_f (by first | assumption | omega) ?_; conv => whnf) | (refine ask (by first | assumption | omega) ?_; conv => whnf) | (refine fit64 (by omega) ?_; conv => whnf) | (refine fit (by simp only [kmin, kmax]; omega) ?_; conv => whnf) | (refine br_t (by assumption) ?_; conv => whnf) | (refine br_f (by assumption) ?_; conv => whnf) | (refine get_of (by assumption) ?_; conv => whnf) | (refine get_map (by assumption) ?_; conv => whnf) | (refine brd (fun h => ?_) (fun h => ?_) <;> conv => whnf) | (refine br (fun h => ?_) (fun h => ?_) <;> conv => whnf) | (refine ret_now hE ?_; conv => whnf) | (intro hlen; conv => whnf))
    refine ⟨rfl, ?_⟩
    rw [decide_eq_false]
    intro hm
    obtain ⟨j, hj'⟩ := List.mem_iff_getElem?.1 hm
    exact hj j (by have := (List.getElem?_eq_some_iff.1 hj').1; omega) q hj' rfl
set_option maxHeartbeats 8000000 in
theorem style_only_ref (l : List De) (names : List (List UInt8)) (hsz : l.length * 32 ≤ 140737488351232) : Fn1 Try.prog 30 [.lst (l.map deA), .lst (names.map V.str)] (fun r => r = onlyR l names) := by
  have hlm : (l.map deA).length = l.length := by simp
  have hnm : (names.map V.str).length = names.length := by simp
  refine fn1_nl ?_
  refine fn1E (T := Try.tt) Try.func30 rfl tt_all follows_all ?_ ?_ fun C hC hE => ?_
  · kernel_rfl
  · exact Nat.le_of_ble_eq_true (by kernel_rfl)
  conv => whnf
  repeat' (first | (refine brd_t (by first | assumption | omega) ?_; conv => whnf) | (refine brd_f (by first | assumption | omega) ?_; conv => whnf) | (refine ask (by first | assumption | omega) ?_; conv => whnf) | (refine fit64 (by omega) ?_; conv => whnf) | (refine fit (by simp only [kmin, kmax]; omega) ?_; conv => whnf) | (refine br_t (by assumption) ?_; conv => whnf) | (refine br_f (by assumption) ?_; conv => whnf) | (refine get_of (by assumption) ?_; conv => whnf) | (refine get_map (by assumption) ?_; conv => whnf) | (refine brd (fun h => ?_) (fun h => ?_) <;> conv => whnf) | (refine br (fun h => ?_) (fun h => ?_) <;> conv => whnf) | (refine ret_now hE ?_; conv => whnf) | (intro hlen; conv => whnf))
  · exact ⟨rfl, by unfold onlyR; rw [if_pos (by omega)]; rfl⟩
  refine loopE (fun ((k, out, seen) : Nat × List De × List (List UInt8)) => ⟨52, [(0, .lst (l.map deA)), (1, .lst (names.map V.str)), (6, .lst (out.map deA)), (7, .sl 0 0 seen.length), (8, .int .i64 ((k : Int) - 1))], [some (.row 1 (seen.map V.str))]⟩)
    (fun (k, out, seen) => k ≤ l.length ∧ seen.length + k ≤ l.length ∧ out = onlyF names (l.drop k) ∧ ∀ s, s ∈ names → (s ∈ seen ↔ ∃ e ∈ l.drop k, e.name = s)) (fun (k, _, _) => k) (l.length, [], []) hE ?_ ?_ ⟨Nat.le_refl _, (show 0 + l.length ≤ l.length by omega), by simp [onlyF], by simp⟩ ?_
  · kernel_rfl
  · refine up_own 7 1 rfl rfl (up_empty 6 rfl rfl ?_)
    refine at_keep [0, 1, 6, 7, 8] ?_
    conv => whnf
    rw [hlm]
    rfl
  rintro ⟨k, out, seen⟩ ⟨hk, hs, ho, hI⟩
  have hom : (out.map deA).length = out.length := by simp
  have hsm : (seen.map V.str).length = seen.length := by simp
  have hol : out.length ≤ l.length - k := by rw [ho]; have := onlyF_len names (l.drop k); rwa [List.length_drop] at this
  rcases Nat.eq_zero_or_pos k with h0 | hpos
  · subst h0
    conv => whnf
    repeat' (first | (refine brd_t (by first | assumption | omega) ?_; conv => whnf) | (refine brd_f (by first | assumption | omega) ?_; conv => whnf) | (refine ask (by first | assumption | omega) ?_; conv => whnf) | (refine fit64 (by omega) ?_; conv => whnf) | (refine fit (by simp only [kmin, kmax]; omega) ?_; conv => whnf) | (refine br_t (by assumption) ?_; conv => whnf) | (refine br_f (by assumption) ?_; conv => whnf) | (refine get_of (by assumption) ?_; conv => whnf) | (refine get_map (by assumption) ?_; conv => whnf) | (refine brd (fun h => ?_) (fun h => ?_) <;> conv => whnf) | (refine br (fun h => ?_) (fun h => ?_) <;> conv => whnf) | (refine ret_now hE ?_; conv => whnf) | (intro hlen; conv => whnf))
    refine ⟨rfl, ?_⟩
    unfold onlyR
    rw [if_neg (by omega), ho]
    simp [V.nl, nlL, nl_des]
  · obtain ⟨m, rfl⟩ : ∃ m, k = m + 1 := ⟨k - 1, by omega⟩
    obtain ⟨x, hx⟩ : ∃ x, l[m]? = some x := ⟨_, List.getElem?_eq_getElem (by omega)⟩
    have hxi : l[(((m + 1 : Nat) : Int) - 1).toNat]? = some x := by rw [show (((m + 1 : Nat) : Int) - 1).toNat = m by omega]; exact hx
    have hd : l.drop m = x :: l.drop (m + 1) := by
      obtain ⟨h, rfl⟩ := List.getElem?_eq_some_iff.1 hx
      exact List.drop_eq_getElem_cons h
    have hst := onlyF_step (names := names) hx
    rw [← ho] at hst
    have hany : x.name ∈ names → ((l.drop (m + 1)).any fun e => decide (e.name = x.name)) = decide (x.name ∈ seen) := by
      intro hn
      rw [Bool.eq_iff_iff, List.any_eq_true, decide_eq_true_iff, hI _ hn]
      simp
    have hskip : ¬ (x.name ∈ names ∧ ¬ x.name ∈ seen) → out = onlyF names (l.drop m) ∧ ∀ s, s ∈ names → (s ∈ seen ↔ ∃ e ∈ l.drop m, e.name = s) := by
      intro hn
      refine ⟨?_, fun s hsn => ?_⟩
      · rw [hst, if_neg]
        rintro ⟨h1, h2⟩
        rw [hany h1] at h2
        exact hn ⟨h1, of_decide_eq_false h2⟩
      · rw [hI s hsn, hd]
        constructor
        · rintro ⟨e, he, h⟩; exact ⟨e, List.mem_cons_of_mem _ he, h⟩
        · rintro ⟨e, he, h⟩
          rcases List.mem_cons.1 he with rfl | he
          · have hx1 : e.name ∈ names := h ▸ hsn
            have hx2 : e.name ∈ seen := Classical.byContradiction fun h2 => hn ⟨hx1, h2⟩
            obtain ⟨e', he', h4⟩ := (hI _ hx1).1 hx2
            exact ⟨e', he', h4.trans h⟩
          · exact ⟨e, he, h⟩
    have hadd : x.name ∈ names → ¬ x.name ∈ seen → x :: out = onlyF names (l.drop m) ∧ ∀ s, s ∈ names → (s ∈ seen ++ [x.name] ↔ ∃ e ∈ l.drop m, e.name = s) := by
      intro h1 h2
      refine ⟨?_, fun s hsn => ?_⟩
      · rw [hst, if_pos ⟨h1, by rw [hany h1]; exact decide_eq_false h2⟩]
      · rw [List.mem_append, hI s hsn, hd]
        constructor
        · rintro (⟨e, he, h⟩ | h)
          · exact ⟨e, List.mem_cons_of_mem _ he, h⟩
          · exact ⟨x, List.mem_cons_self .., (List.mem_singleton.1 h).symm⟩
        · rintro ⟨e, he, h⟩
          rcases List.mem_cons.1 he with rfl | he
          · exact .inr (List.mem_singleton.2 h.symm)
          · exact .inl ⟨e, he, h⟩
    have e8 : ((m + 1 : Nat) : Int) - 1 - 1 = (m : Int) - 1 := by omega
    have eN : killL 0 (killL 1 (List.take 1 (List.drop 0 [V.agg [.str x.name, .str x.value]]) ++ out.map deA)) = (x :: out).map deA := by
      show killL 0 (killL 1 ((x :: out).map deA)) = _
      rw [kill_des, kill_des]
    have hts : List.take seen.length (List.drop 0 (seen.map V.str)) = seen.map V.str := by rw [List.drop_zero]; exact List.take_of_length_le (by omega)
    have eS : killL 2 (frzL 1 (killL 0 (killL 1 (List.take 1 (List.drop 0 [V.agg [.str x.name, .str x.value]]) ++ out.map deA))) (killL 0 (List.take seen.length (List.drop 0 (killL 1 (seen.map V.str))) ++ List.take 1 (List.drop 0 [V.str x.name])))) = (seen ++ [x.name]).map V.str := by
      rw [kill_strs, hts, show seen.map V.str ++ List.take 1 (List.drop 0 [V.str x.name]) = (seen ++ [x.name]).map V.str from by rw [List.map_append]; rfl, kill_strs, frz_nrL _ _ (nr_strs _), kill_strs]
    have hlend : frzL 0 (seen.map V.str) [.str x.name, .sl 0 0 seen.length] = [.str x.name, .lst (seen.map V.str)] := by
      simp only [frzL_cons, frzL_nil, frz_str, frz_sl, if_true]
      rw [if_pos (by omega), List.drop_zero, List.take_of_length_le (by omega)]
    conv => whnf
    repeat' (first | (refine brd_t (by first | assumption | omega) ?_; conv => whnf) | (refine brd_f (by first | assumption | omega) ?_; conv => whnf) | (refine ask (by first | assumption | omega) ?_; conv => whnf) | (refine fit64 (by omega) ?_; conv => whnf) | (refine fit (by simp only [kmin, kmax]; omega) ?_; conv => whnf) | (refine br_t (by assumption) ?_; conv => whnf) | (refine br_f (by assumption) ?_; conv => whnf) | (refine get_of (by assumption) ?_; conv => whnf) | (refine get_map (by assumption) ?_; conv => whnf) | (refine call_eq (one_of x.name names) hC hasBody_53 ?_ ?_ ?_; kernel_rfl; kernel_rfl; conv => whnf) | (refine callq_eq (one_of x.name names) hC hasBody_53 ?_ ?_ ?_; kernel_rfl; kernel_rfl; conv => whnf) | (refine call_lend 0 (one_of x.name seen) hC hasBody_53 rfl (nr_strs seen) rfl hlend rfl ?_ ?_; kernel_rfl; conv => whnf) | (refine ask (Nat.le_refl 1) ?_; conv => whnf) | (refine ⟨cells_des out, ?_⟩; conv => whnf) | (refine ask ⟨Nat.le_refl 1, ?_, ?_⟩ ?_; (show 1 + (out.map deA).length ≤ 9223372036854775807; omega); (show (1 + (out.map deA).length) * 32 ≤ 140737488355328; omega); conv => whnf) | (refine ask ⟨?_, ?_, ?_⟩ ?_; (first | omega | (rw [kill_strs]; omega)); (show seen.length + 1 ≤ 9223372036854775807; omega); (show (seen.length + 1) * 16 ≤ 140737488355328; omega); conv => whnf) | (refine brd (fun h => ?_) (fun h => ?_) <;> conv => whnf) | (refine br (fun h => ?_) (fun h => ?_) <;> conv => whnf) | (refine ret_now hE ?_; conv => whnf) | (intro hlen; conv => whnf))
    · have hh := hskip (by rintro ⟨h1, h2⟩; first | exact absurd (of_decide_eq_true (by assumption)) h2 | exact absurd h1 (of_decide_eq_false (by assumption)))
      refine next_keep [0, 1, 6, 7, 8] (m, out, seen) ⟨(show m ≤ l.length by omega), (show seen.length + m ≤ l.length by omega), hh.1, hh.2⟩ (show m < m + 1 by omega) ?_
      conv => whnf
      rw [e8]
    · have hh := hadd (of_decide_eq_true (by assumption)) (of_decide_eq_false (by assumption))
      refine up_frzK 1 6 [0, 1, 7, 8] rfl ?_ rfl ?_ rfl ?_
      · rw [eN]; exact nr_des _
      · rw [eN]; simp; omega
      refine next_drop [0, 1, 6, 7, 8] [2] (m, x :: out, seen ++ [x.name]) ⟨by omega, (show (seen ++ [x.name]).length + m ≤ l.length by simp; omega), hh.1, hh.2⟩ (show m < m + 1 by omega) ?_
      conv => whnf
      rw [eS, eN, e8]
      show _ = (⟨52, [(0, .lst (l.map deA)), (1, .lst (names.map V.str)), (6, .lst ((x :: out).map deA)), (7, .sl 0 0 (seen ++ [x.name]).length), (8, .int .i64 ((m : Int) - 1))], [some (.row 1 ((seen ++ [x.name]).map V.str))]⟩ : ES)
      rw [List.length_append]
      rfl
    · have hh := hskip (by rintro ⟨h1, h2⟩; first | exact absurd (of_decide_eq_true (by assumption)) h2 | exact absurd h1 (of_decide_eq_false (by assumption)))
      refine next_keep [0, 1, 6, 7, 8] (m, out, seen) ⟨(show m ≤ l.length by omega), (show seen.length + m ≤ l.length by omega), hh.1, hh.2⟩ (show m < m + 1 by omega) ?_
      conv => whnf
      rw [e8]
end Go.Proofs.Yteabokphchpifaa
