/- walk.Play; the document's isEmpty, listAt, withList, walked. No conditions. -/
import Derived.Test.YtkkcmobnhiiacaaPlayC
import Derived.Test.YtkkcmobnhiiacaaWalkAtLaw
set_option linter.unusedSimpArgs false
set_option linter.unusedVariables false
set_option maxRecDepth 100000
namespace Go.Proofs.Ytkkcmobnhiiacaa
open Go.RowKit

def playW : Except Int (List Nd × List Ch) → V
  | .ok (x, _) => .tup [.lst (nodesL x), .int .i64 0]
  | .error e => .tup [.lst [], .int .i64 e]
theorem ref_empty (x : Nd) (hx : fitN x) : Fn1 Try.prog 26 [nodeA x] (fun r => r = .bool (emptyN x)) := by
  obtain ⟨n, a, t, ps⟩ := x
  have hf := fitN_mk.1 hx
  have hfa := hf.1
  have hal : (a.map attA).length = a.length := by simp
  have hpl := nodesL_length ps
  have hb := hf.2.1
  have e1 : emptyN (.mk n a t ps) = (decide (n = []) && decide (t = []) && decide (a.length + ps.length = 0)) := by
    cases n <;> cases t <;> cases a <;> cases ps <;> simp [emptyN, Nd.name, Nd.attrs, Nd.text, Nd.parts]
  rw [nodeA_mk, e1]
  refine fn1E (T := Try.tt) Try.func26 rfl tt_all follows_all ?_ ?_ fun C hC hE => ?_
  · kernel_rfl
  · exact Nat.le_of_ble_eq_true (by kernel_rfl)
  conv => whnf
  repeat' (first | (refine brd_t (by first | assumption | omega) ?_; conv => whnf) | (refine brd_f (by first | assumption | omega) ?_; conv => whnf) | (refine ask (by first | assumption | omega) ?_; conv => whnf) | (refine fit64 (by omega) ?_; conv => whnf) | (refine fit (by simp only [kmin, kmax]; omega) ?_; conv => whnf) | (refine br_t (by assumption) ?_; conv => whnf) | (refine br_f (by assumption) ?_; conv => whnf) | (refine get_of (by assumption) ?_; conv => whnf) | (refine get_map (by assumption) ?_; conv => whnf) | (refine draw_lex hE ?_ ?_; decide +kernel; conv => whnf) | (refine brd (fun h => ?_) (fun h => ?_) <;> conv => whnf) | (refine br (fun h => ?_) (fun h => ?_) <;> conv => whnf) | (refine ret_now hE ?_; conv => whnf) | (intro hlen; conv => whnf) | (refine seg_here ?_; conv => whnf) | (refine both ?_ ?_ <;> conv => whnf))
  all_goals
    refine ⟨rfl, ?_⟩
    congr 1
    symm
    first
      | (have q : a.length + ps.length = 0 := by omega
         rw [decide_eq_true q]
         clear h hlen hal hpl hb hfa hf hx e1 q
         simp_all; done)
      | (have q : ¬ (a.length + ps.length = 0) := by omega
         rw [decide_eq_false q]
         simp; done)
      | (simp_all; done)
/-- The list in which a path's last place is. -/
def lstF (l : List Nd) (path : List Int) : List Nd × Bool := if path.length = 1 then (l, true) else ((atN (atF l path.dropLast)).parts, decide (atE (atF l path.dropLast) = 0) && decide ((atN (atF l path.dropLast)).name ≠ []))
theorem ref_listAt (l : List Nd) (path : List Int) (hp : 0 < path.length) (hpm : path.length * 8 ≤ 140737488351232) : Fn1 Try.prog 27 [.lst (nodesL l), .lst (path.map (V.int .i64))] (fun r => r = .tup [.lst (nodesL (lstF l path).1), .bool (lstF l path).2]) := by
  have hlp : (path.map (V.int .i64)).length = path.length := by simp
  unfold lstF
  by_cases h1 : path.length = 1
  · rw [if_pos h1]
    refine fn1E (T := Try.tt) Try.func27 rfl tt_all follows_all ?_ ?_ fun C hC hE => ?_
    · kernel_rfl
    · exact Nat.le_of_ble_eq_true (by kernel_rfl)
    conv => whnf
    repeat' (first | (refine brd_t (by first | assumption | omega) ?_; conv => whnf) | (refine brd_f (by first | assumption | omega) ?_; conv => whnf) | (refine ask (by first | assumption | omega) ?_; conv => whnf) | (refine fit64 (by omega) ?_; conv => whnf) | (refine fit (by simp only [kmin, kmax]; omega) ?_; conv => whnf) | (refine br_t (by assumption) ?_; conv => whnf) | (refine br_f (by assumption) ?_; conv => whnf) | (refine get_of (by assumption) ?_; conv => whnf) | (refine get_map (by assumption) ?_; conv => whnf) | (refine draw_lex hE ?_ ?_; decide +kernel; conv => whnf) | (refine draw_any hE [⟨0, [(0, none), (1, none), (2, none), (3, none), (4, none), (5, none), (6, none), (7, none), (8, none), (9, none), (10, none)], none, [], [[]]⟩] ?_ ?_; decide +kernel; conv => whnf) | (refine brd (fun h => ?_) (fun h => ?_) <;> conv => whnf) | (refine br (fun h => ?_) (fun h => ?_) <;> conv => whnf) | (refine ret_now hE ?_; conv => whnf) | (intro hlen; conv => whnf) | (refine seg_here ?_; conv => whnf) | (refine both ?_ ?_ <;> conv => whnf))
    all_goals exact ⟨rfl, rfl⟩
  · rw [if_neg h1]
    have hw := walk_at_ref path.dropLast l
    unfold atR at hw
    have hcut : List.take (((path.map (V.int .i64)).length : Int) - 1).toNat (path.map (V.int .i64)) = path.dropLast.map (V.int .i64) := by
      rw [hlp, show ((path.length : Int) - 1).toNat = path.length - 1 by omega, List.dropLast_eq_take, List.map_take]
    cases hN : atN (atF l path.dropLast) with
    | mk n a t ps =>
    rw [hN, nodeA_mk] at hw
    simp only [Nd.parts, Nd.name]
    have hE2 : atE (atF l path.dropLast) = 0 ∨ atE (atF l path.dropLast) = 7 := by unfold atE; split; exact .inl rfl; exact .inr rfl
    rcases hE2 with he | he
    all_goals
      rw [he] at hw ⊢
      refine fn1E (T := Try.tt) Try.func27 rfl tt_all follows_all ?_ ?_ fun C hC hE => ?_
      · kernel_rfl
      · exact Nat.le_of_ble_eq_true (by kernel_rfl)
      conv => whnf
      repeat' (first | (refine brd_t (by first | assumption | omega) ?_; conv => whnf) | (refine brd_f (by first | assumption | omega) ?_; conv => whnf) | (refine ask (by first | assumption | omega) ?_; conv => whnf) | (refine fit64 (by omega) ?_; conv => whnf) | (refine fit (by simp only [kmin, kmax]; omega) ?_; conv => whnf) | (refine br_t (by assumption) ?_; conv => whnf) | (refine br_f (by assumption) ?_; conv => whnf) | (refine get_of (by assumption) ?_; conv => whnf) | (refine get_map (by assumption) ?_; conv => whnf) | (refine ⟨cells_ints path, ?_⟩; conv => whnf) | (refine call_as hw hC hasBody_13 ?_ ?_ ?_ ?_; (show [V.lst (nodesL l), V.lst _] = _; rw [hcut]); kernel_rfl; kernel_rfl; conv => whnf) | (refine draw_lex hE ?_ ?_; decide +kernel; conv => whnf) | (refine draw_any hE [⟨0, [(0, none), (1, none), (2, none), (3, none), (4, none), (5, none), (6, none), (7, none), (8, none), (9, none), (10, none)], none, [], [[]]⟩] ?_ ?_; decide +kernel; conv => whnf) | (refine brd (fun h => ?_) (fun h => ?_) <;> conv => whnf) | (refine br (fun h => ?_) (fun h => ?_) <;> conv => whnf) | (refine ret_now hE ?_; conv => whnf) | (intro hlen; conv => whnf) | (refine seg_here ?_; conv => whnf) | (refine both ?_ ?_ <;> conv => whnf))
      all_goals exact ⟨rfl, by simp_all⟩
/-- The nodes with another list at a path's list. -/
def wlF : List Nd → List Int → List Nd → List Nd
  | l, [], list => list
  | l, p :: ps, list => if ps = [] then list else if p < 0 then l else match l[p.toNat]? with
    | none => l
    | some n => l.set p.toNat (.mk n.name n.attrs n.text (wlF n.parts ps list))
theorem gL_wl {m : Nat} {list : List Nd} (hlist : gL (m + 1) list) (path : List Int) : ∀ l : List Nd, gL m l → gL (m + 1) (wlF l path list) := by
  induction path with
  | nil => intro l _; rw [wlF]; exact hlist
  | cons p ps ih =>
    intro l hl
    have hup : gL (m + 1) l := ⟨by have := hl.1; omega, gA_up (by omega) l hl.2⟩
    rw [wlF]
    split
    · exact hlist
    · split
      · exact hup
      · split
        · exact hup
        · rename_i n hn
          have hx := gA_iff.1 hl.2 n (List.mem_of_getElem? hn)
          cases n with
          | mk nn na nt nq =>
            rw [gN_mk] at hx
            exact gL_set hl (gN_mk.2 ⟨hx.1, ih nq hx.2⟩)
set_option maxHeartbeats 8000000 in
theorem ref_withList (list : List Nd) (path : List Int) : ∀ (m : Nat) (l : List Nd), m ≤ 40 → gL m l → 0 < path.length → Fn1 Try.prog 28 [.lst (nodesL l), .lst (path.map (V.int .i64)), .lst (nodesL list)] (fun r => r = .lst (nodesL (wlF l path list))) := by
  induction path with
  | nil => intro m l hm hl hp; exact absurd hp (by decide)
  | cons p ps ih =>
    intro m l hm hl hp
    have hlm := nodesL_length l
    have hfb := hl.1
    have hqm : (ps.map (V.int .i64)).length = ps.length := by simp
    have hlp : ((p :: ps).map (V.int .i64)).length = ps.length + 1 := by simp
    have hp0 : ((p :: ps).map (V.int .i64))[0]? = some (.int .i64 p) := rfl
    have hnd : nlL (nodesL (wlF l (p :: ps) list)) = nodesL (wlF l (p :: ps) list) := nl_nodes _
    refine fn1_nl ?_
    by_cases h1 : ps = []
    · subst h1
      have hw : wlF l [p] list = list := by rw [wlF, if_pos rfl]
      have hlp1 : (([p] : List Int).map (V.int .i64)).length = 1 := rfl
      rw [hw]
      refine fn1E (T := Try.tt) Try.func28 rfl tt_all follows_all ?_ ?_ fun C hC hE => ?_
      · kernel_rfl
      · exact Nat.le_of_ble_eq_true (by kernel_rfl)
      conv => whnf
      repeat' (first | (refine brd_t (by first | assumption | omega) ?_; conv => whnf) | (refine brd_f (by first | assumption | omega) ?_; conv => whnf) | (refine ask (by first | assumption | omega) ?_; conv => whnf) | (refine fit64 (by omega) ?_; conv => whnf) | (refine fit (by simp only [kmin, kmax]; omega) ?_; conv => whnf) | (refine br_t (by assumption) ?_; conv => whnf) | (refine br_f (by assumption) ?_; conv => whnf) | (refine get_of (by assumption) ?_; conv => whnf) | (refine get_map (by assumption) ?_; conv => whnf) | (refine draw_lex hE ?_ ?_; decide +kernel; conv => whnf) | (refine draw_any hE [⟨0, [(0, none), (1, none), (2, none), (3, none), (4, none), (5, none), (6, none)], some 7, [], [[]]⟩] ?_ ?_; decide +kernel; conv => whnf) | (refine brd (fun h => ?_) (fun h => ?_) <;> conv => whnf) | (refine br (fun h => ?_) (fun h => ?_) <;> conv => whnf) | (refine ret_now hE ?_; conv => whnf) | (intro hlen; conv => whnf) | (refine seg_here ?_; conv => whnf) | (refine both ?_ ?_ <;> conv => whnf))
      all_goals exact ⟨rfl, by simp [V.nl, nl_nodes]⟩
    · have hpl : 0 < ps.length := List.length_pos_iff.2 h1
      have hwt : ∀ k ≤ l.length, k < l.length → ((wlF l (p :: ps) list)[k]? = if p = (k : Int) then (match l[k]? with | none => none | some n => some (.mk n.name n.attrs n.text (wlF n.parts ps list))) else l[k]?) ∧ (wlF l (p :: ps) list).length = l.length := by
        intro k _ hk
        rw [wlF, if_neg h1]
        by_cases hneg : p < 0
        · rw [if_pos hneg, if_neg (by omega)]; exact ⟨rfl, rfl⟩
        · rw [if_neg hneg]
          split
          · rename_i hn
            have := List.getElem?_eq_none_iff.1 hn
            rw [if_neg (by omega)]
            exact ⟨rfl, rfl⟩
          · rename_i n hn
            refine ⟨?_, by simp⟩
            by_cases he : p = (k : Int)
            · subst he
              simp only [Int.toNat_natCast] at hn ⊢
              rw [hn, List.getElem?_set_self (by omega)]; simp
            · rw [if_neg he, List.getElem?_set_ne (by omega)]
      have hWl : (wlF l (p :: ps) list).length = l.length := by
        rw [wlF, if_neg h1]
        split
        · rfl
        · split
          · rfl
          · simp
      generalize hW : wlF l (p :: ps) list = W at *
      refine fn1E (T := Try.tt) Try.func28 rfl tt_all follows_all ?_ ?_ fun C hC hE => ?_
      · kernel_rfl
      · exact Nat.le_of_ble_eq_true (by kernel_rfl)
      conv => whnf
      repeat' (first | (refine brd_t (by first | assumption | omega) ?_; conv => whnf) | (refine brd_f (by first | assumption | omega) ?_; conv => whnf) | (refine ask (by first | assumption | omega) ?_; conv => whnf) | (refine fit64 (by omega) ?_; conv => whnf) | (refine fit (by simp only [kmin, kmax]; omega) ?_; conv => whnf) | (refine br_t (by assumption) ?_; conv => whnf) | (refine br_f (by assumption) ?_; conv => whnf) | (refine get_of (by assumption) ?_; conv => whnf) | (refine get_map (by assumption) ?_; conv => whnf) | (refine draw_lex hE ?_ ?_; decide +kernel; conv => whnf) | (refine draw_any hE [⟨0, [(0, none), (1, none), (2, none), (3, none), (4, none), (5, none), (6, none)], some 7, [], [[]]⟩] ?_ ?_; decide +kernel; conv => whnf) | (refine brd (fun h => ?_) (fun h => ?_) <;> conv => whnf) | (refine br (fun h => ?_) (fun h => ?_) <;> conv => whnf) | (refine ret_now hE ?_; conv => whnf) | (intro hlen; conv => whnf) | (refine seg_here ?_; conv => whnf) | (refine both ?_ ?_ <;> conv => whnf))
      refine loopE (fun k : Nat => ⟨39, [(1, .lst ((p :: ps).map (V.int .i64))), (2, .lst (nodesL list)), (7, .sl 0 0 (W.take k).length), (14, .lst (nodesL l)), (15, .int .i64 (nodesL l).length), (16, .int .i64 k)], [some (.row 4 (nodesL (W.take k)))]⟩) (fun k => k ≤ l.length) (fun k => l.length - k) 0 hE ?_ ?_ (Nat.zero_le _) ?_
      · kernel_rfl
      · exact up_own 7 4 rfl rfl (at_keep [1, 2, 7, 14, 15, 16] rfl)
      intro k hk
      by_cases hlt : k < l.length
      · obtain ⟨n, a, t, qs, hx, hx'⟩ := node_at hlt
        obtain ⟨hw1, hw2⟩ := hwt k hk hlt
        rw [hx] at hw1
        have hlk : (W.take k).length = k := by rw [List.length_take]; omega
        have hfx := gN_mk.1 (gA_iff.1 hl.2 _ (List.mem_of_getElem? hx))
        have hrec := ih m qs hm hfx.2 hpl
        have hlm' := nodesL_length (W.take k)
        have htk : List.take (W.take k).length (List.drop 0 (nodesL (W.take k))) = nodesL (W.take k) := by rw [List.drop_zero]; exact List.take_of_length_le (by omega)
        by_cases hpk : p = (k : Int)
        · rw [if_pos hpk] at hw1
          simp only [Nd.name, Nd.attrs, Nd.text, Nd.parts] at hw1
          conv => whnf
          repeat' (first | (refine brd_t (by first | assumption | omega) ?_; conv => whnf) | (refine brd_f (by first | assumption | omega) ?_; conv => whnf) | (refine ask (by first | assumption | omega) ?_; conv => whnf) | (refine fit64 (by omega) ?_; conv => whnf) | (refine fit (by simp only [kmin, kmax]; omega) ?_; conv => whnf) | (refine br_t (by assumption) ?_; conv => whnf) | (refine br_f (by assumption) ?_; conv => whnf) | (refine get_of (by assumption) ?_; conv => whnf) | (refine get_map (by assumption) ?_; conv => whnf) | (refine ⟨cells_ints (p :: ps), ?_⟩; conv => whnf) | (refine call_as hrec hC hasBody_28 ?_ ?_ ?_ ?_; rfl; kernel_rfl; kernel_rfl; conv => whnf) | (refine ask (Nat.le_refl 1) ?_; conv => whnf) | (refine ask ⟨?_, ?_, ?_⟩ ?_; omega; (show (W.take k).length + 1 ≤ 9223372036854775807; omega); (show ((W.take k).length + 1) * 80 ≤ 140737488355328; omega); conv => whnf) | (refine draw_lex hE ?_ ?_; decide +kernel; conv => whnf) | (refine draw_any hE [⟨0, [(0, none), (1, none), (2, none), (3, none), (4, none), (5, none), (6, none)], some 7, [], [[]]⟩] ?_ ?_; decide +kernel; conv => whnf) | (refine brd (fun h => ?_) (fun h => ?_) <;> conv => whnf) | (refine br (fun h => ?_) (fun h => ?_) <;> conv => whnf) | (refine ret_now hE ?_; conv => whnf) | (intro hlen; conv => whnf) | (refine seg_here ?_; conv => whnf) | (refine both ?_ ?_ <;> conv => whnf))
          have hft : nodesL (W.take (k + 1)) = nodesL (W.take k) ++ [.agg [.str n, .lst (a.map attA), .str t, .lst (nodesL (wlF qs ps list))]] := by rw [List.take_add_one, hw1, nodesL_append]; simp [nodesL, nodeA_mk]
          refine next_drop [1, 2, 7, 14, 15, 16] [1, 2] (k + 1) hlt (by omega) ?_
          have e2 : killL 2 (killL 1 (killL 0 (List.take (W.take k).length (List.drop 0 (nodesL (W.take k))) ++ List.take 1 (List.drop 0 [.agg [.str n, .lst (a.map attA), .str t, .lst (nodesL (wlF qs ps list))]])))) = nodesL (W.take (k + 1)) := by
            rw [show List.take (W.take k).length (List.drop 0 (nodesL (W.take k))) ++ List.take 1 (List.drop 0 [V.agg [.str n, .lst (a.map attA), .str t, .lst (nodesL (wlF qs ps list))]]) = nodesL (W.take (k + 1)) from by rw [htk, hft]; rfl, kill_nodes, kill_nodes, kill_nodes]
          have e1 : (W.take k).length + (List.take 1 (List.drop 0 [V.agg [.str n, .lst (a.map attA), .str t, .lst (nodesL (wlF qs ps list))]])).length = (W.take (k + 1)).length := by show (W.take k).length + 1 = _; rw [hlk, List.length_take]; omega
          conv => whnf
          rw [e1, e2]
          rfl
        · rw [if_neg hpk] at hw1
          conv => whnf
          repeat' (first | (refine brd_t (by first | assumption | omega) ?_; conv => whnf) | (refine brd_f (by first | assumption | omega) ?_; conv => whnf) | (refine ask (by first | assumption | omega) ?_; conv => whnf) | (refine fit64 (by omega) ?_; conv => whnf) | (refine fit (by simp only [kmin, kmax]; omega) ?_; conv => whnf) | (refine br_t (by assumption) ?_; conv => whnf) | (refine br_f (by assumption) ?_; conv => whnf) | (refine get_of (by assumption) ?_; conv => whnf) | (refine get_map (by assumption) ?_; conv => whnf) | (refine ask (Nat.le_refl 1) ?_; conv => whnf) | (refine ask ⟨?_, ?_, ?_⟩ ?_; omega; (show (W.take k).length + 1 ≤ 9223372036854775807; omega); (show ((W.take k).length + 1) * 80 ≤ 140737488355328; omega); conv => whnf) | (refine draw_lex hE ?_ ?_; decide +kernel; conv => whnf) | (refine draw_any hE [⟨0, [(0, none), (1, none), (2, none), (3, none), (4, none), (5, none), (6, none)], some 7, [], [[]]⟩] ?_ ?_; decide +kernel; conv => whnf) | (refine brd (fun h => ?_) (fun h => ?_) <;> conv => whnf) | (refine br (fun h => ?_) (fun h => ?_) <;> conv => whnf) | (refine ret_now hE ?_; conv => whnf) | (intro hlen; conv => whnf) | (refine seg_here ?_; conv => whnf) | (refine both ?_ ?_ <;> conv => whnf))
          have hft : nodesL (W.take (k + 1)) = nodesL (W.take k) ++ [.agg [.str n, .lst (a.map attA), .str t, .lst (nodesL qs)]] := by rw [List.take_add_one, hw1, nodesL_append]; simp [nodesL, nodeA_mk]
          refine next_drop [1, 2, 7, 14, 15, 16] [1, 2] (k + 1) hlt (by omega) ?_
          have e2 : killL 2 (killL 1 (killL 0 (List.take (W.take k).length (List.drop 0 (nodesL (W.take k))) ++ List.take 1 (List.drop 0 [.agg [.str n, .lst (a.map attA), .str t, .lst (nodesL qs)]])))) = nodesL (W.take (k + 1)) := by
            rw [show List.take (W.take k).length (List.drop 0 (nodesL (W.take k))) ++ List.take 1 (List.drop 0 [V.agg [.str n, .lst (a.map attA), .str t, .lst (nodesL qs)]]) = nodesL (W.take (k + 1)) from by rw [htk, hft]; rfl, kill_nodes, kill_nodes, kill_nodes]
          have e1 : (W.take k).length + (List.take 1 (List.drop 0 [V.agg [.str n, .lst (a.map attA), .str t, .lst (nodesL qs)]])).length = (W.take (k + 1)).length := by show (W.take k).length + 1 = _; rw [hlk, List.length_take]; omega
          conv => whnf
          rw [e1, e2]
          rfl
      · conv => whnf
        repeat' (first | (refine brd_t (by first | assumption | omega) ?_; conv => whnf) | (refine brd_f (by first | assumption | omega) ?_; conv => whnf) | (refine ask (by first | assumption | omega) ?_; conv => whnf) | (refine fit64 (by omega) ?_; conv => whnf) | (refine fit (by simp only [kmin, kmax]; omega) ?_; conv => whnf) | (refine br_t (by assumption) ?_; conv => whnf) | (refine br_f (by assumption) ?_; conv => whnf) | (refine get_of (by assumption) ?_; conv => whnf) | (refine get_map (by assumption) ?_; conv => whnf) | (refine ret_up (up_frzK 0 6 [] rfl ?_ rfl ?_ rfl (up_here ?_)); exact nodesL_nr _; (rw [nodesL_length])) | (refine draw_lex hE ?_ ?_; decide +kernel; conv => whnf) | (refine draw_any hE [⟨0, [(0, none), (1, none), (2, none), (3, none), (4, none), (5, none), (6, none)], some 7, [], [[]]⟩] ?_ ?_; decide +kernel; conv => whnf) | (refine brd (fun h => ?_) (fun h => ?_) <;> conv => whnf) | (refine br (fun h => ?_) (fun h => ?_) <;> conv => whnf) | (refine ret_now hE ?_; conv => whnf) | (intro hlen; conv => whnf) | (refine seg_here ?_; conv => whnf) | (refine both ?_ ?_ <;> conv => whnf))
        have hkW : W.take k = W := List.take_of_length_le (by rw [hWl]; omega)
        rw [hkW]
        exact ⟨rfl, by simp [V.nl, nl_nodes]⟩
end Go.Proofs.Ytkkcmobnhiiacaa
