/- The document's StyleText, walked. No conditions. -/
import Derived.Test.YtaeeceabnkgnnaaDoorStyFG
/-! style.Text and the document's StyleText, walked. No conditions. -/
set_option linter.unusedSimpArgs false
set_option linter.unusedVariables false
set_option maxRecDepth 100000
namespace Go.Proofs.YtaeeceabnkgnnaaDoor
open Go.RowKit

theorem join_nil (sep : List UInt8) : Lib.join [] sep = [] := rfl
theorem join_snoc (xs : List (List UInt8)) (y sep : List UInt8) : Lib.join (xs ++ [y]) sep = if xs = [] then y else Lib.join xs sep ++ sep ++ y := by
  unfold Lib.join
  induction xs with
  | nil => simp [List.intercalate]
  | cons x xs ih =>
    rw [if_neg (by simp)]
    cases xs with
    | nil => simp [List.intercalate]
    | cons x2 xs =>
      rw [if_neg (by simp)] at ih
      simp only [List.intercalate, List.cons_append, List.intersperse, List.flatten_cons, List.append_assoc] at ih ⊢
      rw [ih]
theorem join_len (xs : List (List UInt8)) (sep : List UInt8) : (Lib.join xs sep).length ≤ (xs.map fun x => x.length + sep.length).sum := by
  induction xs with
  | nil => simp [Lib.join, List.intercalate]
  | cons x xs ih =>
    cases xs with
    | nil => simp [Lib.join, List.intercalate]
    | cons x2 xs =>
      simp only [Lib.join, List.intercalate, List.intersperse, List.flatten_cons, List.length_append, List.map_cons, List.sum_cons] at ih ⊢
      omega

/-- A declaration as text, and what is the matter with it. -/
def stS (d : Dc) : List UInt8 := d.1 ++ [58, 32] ++ d.2
def stE (d : Dc) : Int := if nameOk d.1 = false then 5 else if parseS (stS d) = [d] then 0 else 4
def firstE : List Dc → Int
  | [] => 0
  | d :: r => if stE d = 0 then firstE r else stE d
def stT (l : List Dc) : List UInt8 × Int := if firstE l = 0 then (if 600 < (Lib.join (l.map stS) [59, 32]).length then ([], 1) else (Lib.join (l.map stS) [59, 32], 0)) else ([], firstE l)
theorem firstE_step {l : List Dc} {k : Nat} {x : Dc} (hx : l[k]? = some x) : firstE (l.drop k) = if stE x = 0 then firstE (l.drop (k + 1)) else stE x := by
  obtain ⟨hlt, rfl⟩ := List.getElem?_eq_some_iff.1 hx
  rw [List.drop_eq_getElem_cons hlt, firstE]
theorem take_step {α : Type} (f : Dc → α) {l : List Dc} {k : Nat} {x : Dc} (hx : l[k]? = some x) : (l.take (k + 1)).map f = (l.take k).map f ++ [f x] := by
  rw [List.take_add_one, hx, List.map_append]
  rfl
def szD (d : Dc) : Nat := (d.1.length + 1) + (d.2.length + 1) + 1
theorem szD_mem {l : List Dc} {x : Dc} (h : x ∈ l) : szD x ≤ (l.map szD).sum := by
  induction l with
  | nil => cases h
  | cons a l ih =>
    rcases List.mem_cons.1 h with rfl | h
    · simp
    · have := ih h; simp; omega
theorem szD_len : ∀ l : List Dc, 3 * l.length ≤ (l.map szD).sum
  | [] => by simp
  | a :: l => by have := szD_len l; simp [szD]; omega
theorem stS_len (d : Dc) : (stS d).length + 1 = szD d := by simp [stS, szD]; omega
theorem stJ_len (l : List Dc) : (Lib.join (l.map stS) [59, 32]).length ≤ 2 * (l.map szD).sum := by
  refine Nat.le_trans (join_len _ _) ?_
  induction l with
  | nil => simp
  | cons a l ih =>
    have := stS_len a
    have e : szD a = (a.1.length + 1) + (a.2.length + 1) + 1 := rfl
    simp only [List.map_cons, List.sum_cons, List.length_cons, List.length_nil] at ih ⊢
    omega
theorem stJ_take (l : List Dc) (k : Nat) : (Lib.join ((l.take k).map stS) [59, 32]).length ≤ 2 * (l.map szD).sum := by
  refine Nat.le_trans (stJ_len _) ?_
  have : ((l.take k).map szD).sum ≤ (l.map szD).sum := by
    conv => rhs; rw [← List.take_append_drop k l, List.map_append, List.sum_append]
    omega
  omega
theorem nl_se (s : List UInt8) (e : Int) : (V.tup [.str s, .int .i64 e]).nl = .tup [.str s, .int .i64 e] := by simp [V.nl, nlL]

theorem equal_decls (a b : List Dc) : Fn1 Tryd.prog 22 [.lst (a.map declA), .lst (b.map declA)] (fun r => r = .bool (decide (a = b))) := by
  have hlm : (a.map declA).length = a.length := by simp
  have hlm' : (b.map declA).length = b.length := by simp
  by_cases hab : a.length = b.length
  · refine fn1E (T := Tryd.tt) Tryd.func22 rfl tt_all follows_all ?_ ?_ fun C hC hE => ?_
    · kernel_rfl
    · exact Nat.le_of_ble_eq_true (by kernel_rfl)
    conv => whnf
    repeat' (first | (refine brd_t (by first | assumption | omega) ?_; conv => whnf) | (refine brd_f (by first | assumption | omega) ?_; conv => whnf) | (refine ask (by first | assumption | omega) ?_; conv => whnf) | (refine fit64 (by omega) ?_; conv => whnf) | (refine fit (by simp only [kmin, kmax]; omega) ?_; conv => whnf) | (refine br_t (by assumption) ?_; conv => whnf) | (refine br_f (by assumption) ?_; conv => whnf) | (refine get_of (by assumption) ?_; conv => whnf) | (refine get_map (by assumption) ?_; conv => whnf) | (refine draw_lex hE ?_ ?_; decide +kernel; conv => whnf) | (refine draw_any hE [⟨0, [(0, none), (1, none), (2, none), (3, none), (4, none), (5, none), (6, none), (7, none), (8, none)], none, [], [[]]⟩] ?_ ?_; decide +kernel; conv => whnf) | (refine brd (fun h => ?_) (fun h => ?_) <;> conv => whnf) | (refine br (fun h => ?_) (fun h => ?_) <;> conv => whnf) | (refine ret_now hE ?_; conv => whnf) | (intro hlen; conv => whnf) | (refine seg_here ?_; conv => whnf) | (refine both ?_ ?_ <;> conv => whnf))
    refine loopE (fun k : Nat => ⟨26, [(0, .lst (a.map declA)), (1, .lst (b.map declA)), (12, .int .i64 (a.map declA).length), (13, .int .i64 k)], []⟩) (fun k => k ≤ a.length ∧ ∀ j < k, a[j]? = b[j]?) (fun k => a.length - k) 0 hE ?_ ?_ ⟨Nat.zero_le _, fun j hj => by omega⟩ ?_
    · kernel_rfl
    · exact at_keep [0, 1, 12, 13] rfl
    intro k hk
    obtain ⟨hk, hj⟩ := hk
    by_cases hlt : k < a.length
    · obtain ⟨x, hx⟩ : ∃ x, a[k]? = some x := ⟨_, List.getElem?_eq_getElem hlt⟩
      obtain ⟨y, hy⟩ : ∃ y, b[k]? = some y := ⟨_, List.getElem?_eq_getElem (by omega)⟩
      conv => whnf
      repeat' (first | (refine brd_t (by first | assumption | omega) ?_; conv => whnf) | (refine brd_f (by first | assumption | omega) ?_; conv => whnf) | (refine ask (by first | assumption | omega) ?_; conv => whnf) | (refine fit64 (by omega) ?_; conv => whnf) | (refine fit (by simp only [kmin, kmax]; omega) ?_; conv => whnf) | (refine br_t (by assumption) ?_; conv => whnf) | (refine br_f (by assumption) ?_; conv => whnf) | (refine get_of (by assumption) ?_; conv => whnf) | (refine get_map (by assumption) ?_; conv => whnf) | (refine draw_lex hE ?_ ?_; decide +kernel; conv => whnf) | (refine draw_any hE [⟨0, [(0, none), (1, none), (2, none), (3, none), (4, none), (5, none), (6, none), (7, none), (8, none)], none, [], [[]]⟩] ?_ ?_; decide +kernel; conv => whnf) | (refine brd (fun h => ?_) (fun h => ?_) <;> conv => whnf) | (refine br (fun h => ?_) (fun h => ?_) <;> conv => whnf) | (refine ret_now hE ?_; conv => whnf) | (intro hlen; conv => whnf) | (refine seg_here ?_; conv => whnf) | (refine both ?_ ?_ <;> conv => whnf))
      all_goals first
        | (refine ⟨rfl, ?_⟩
           rw [decide_eq_false]
           intro e
           rw [e, hy] at hx
           cases hx
           exact absurd rfl (by assumption))
        | (refine next_keep [0, 1, 12, 13] (k + 1) ⟨hlt, fun j hjk => ?_⟩ (show a.length - (k + 1) < a.length - k by omega) rfl
           by_cases e : j = k
           · subst e
             rw [hx, hy]
             exact congrArg some (Prod.ext (by assumption) (by assumption))
           · exact hj j (by omega))
    · conv => whnf
      repeat' (first | (refine brd_t (by first | assumption | omega) ?_; conv => whnf) | (refine brd_f (by first | assumption | omega) ?_; conv => whnf) | (refine ask (by first | assumption | omega) ?_; conv => whnf) | (refine fit64 (by omega) ?_; conv => whnf) | (refine fit (by simp only [kmin, kmax]; omega) ?_; conv => whnf) | (refine br_t (by assumption) ?_; conv => whnf) | (refine br_f (by assumption) ?_; conv => whnf) | (refine get_of (by assumption) ?_; conv => whnf) | (refine get_map (by assumption) ?_; conv => whnf) | (refine draw_lex hE ?_ ?_; decide +kernel; conv => whnf) | (refine draw_any hE [⟨0, [(0, none), (1, none), (2, none), (3, none), (4, none), (5, none), (6, none), (7, none), (8, none)], none, [], [[]]⟩] ?_ ?_; decide +kernel; conv => whnf) | (refine brd (fun h => ?_) (fun h => ?_) <;> conv => whnf) | (refine br (fun h => ?_) (fun h => ?_) <;> conv => whnf) | (refine ret_now hE ?_; conv => whnf) | (intro hlen; conv => whnf) | (refine seg_here ?_; conv => whnf) | (refine both ?_ ?_ <;> conv => whnf))
      refine ⟨rfl, ?_⟩
      rw [decide_eq_true]
      apply List.ext_getElem?
      intro j
      by_cases h : j < a.length
      · exact hj j (by omega)
      · rw [List.getElem?_eq_none (by omega), List.getElem?_eq_none (by omega)]
  · refine fn1E (T := Tryd.tt) Tryd.func22 rfl tt_all follows_all ?_ ?_ fun C hC hE => ?_
    · kernel_rfl
    · exact Nat.le_of_ble_eq_true (by kernel_rfl)
    conv => whnf
    repeat' (first | (refine brd_t (by first | assumption | omega) ?_; conv => whnf) | (refine brd_f (by first | assumption | omega) ?_; conv => whnf) | (refine ask (by first | assumption | omega) ?_; conv => whnf) | (refine fit64 (by omega) ?_; conv => whnf) | (refine fit (by simp only [kmin, kmax]; omega) ?_; conv => whnf) | (refine br_t (by assumption) ?_; conv => whnf) | (refine br_f (by assumption) ?_; conv => whnf) | (refine get_of (by assumption) ?_; conv => whnf) | (refine get_map (by assumption) ?_; conv => whnf) | (refine draw_lex hE ?_ ?_; decide +kernel; conv => whnf) | (refine draw_any hE [⟨0, [(0, none), (1, none), (2, none), (3, none), (4, none), (5, none), (6, none), (7, none), (8, none)], none, [], [[]]⟩] ?_ ?_; decide +kernel; conv => whnf) | (refine brd (fun h => ?_) (fun h => ?_) <;> conv => whnf) | (refine br (fun h => ?_) (fun h => ?_) <;> conv => whnf) | (refine ret_now hE ?_; conv => whnf) | (intro hlen; conv => whnf) | (refine seg_here ?_; conv => whnf) | (refine both ?_ ?_ <;> conv => whnf))
    exact ⟨rfl, by rw [decide_eq_false (fun e => hab (by rw [e]))]⟩
theorem kill_strT (id : Nat) (l : List (List UInt8)) : killL id (l.map V.str) = l.map V.str := kill_nrL _ (nr_strs l)
theorem frz_one (q : List Dc) (x : Dc) : frzL 2 [.agg [.str x.1, .str x.2]] [.lst (q.map declA), .sl 2 0 1] = [.lst (q.map declA), .lst ([x].map declA)] := by
  simp [frzL, V.frz, declA]
set_option maxHeartbeats 16000000 in
theorem style_text (l : List Dc) (hz : (l.map szD).sum ≤ 1048576) : Fn1G Tryd.prog GM 11 [.lst (l.map declA)] (fun r => r = .tup [.str (stT l).1, .int .i64 (stT l).2]) := by
  have hlm := decls_len l
  have hzl := szD_len l
  refine fn1G_nl ?_
  refine fn1GE (T := Tryd.tt) Tryd.func11 rfl tt_all follows_all ?_ ?_ fun C hC hW hG hE => ?_
  · kernel_rfl
  · exact Nat.le_of_ble_eq_true (by kernel_rfl)
  conv => whnf
  repeat' (first | (refine brd_t (by first | assumption | omega) ?_; conv => whnf) | (refine brd_f (by first | assumption | omega) ?_; conv => whnf) | (refine ask (by first | assumption | omega) ?_; conv => whnf) | (refine fit64 (by omega) ?_; conv => whnf) | (refine fit (by simp only [kmin, kmax]; omega) ?_; conv => whnf) | (refine br_t (by assumption) ?_; conv => whnf) | (refine br_f (by assumption) ?_; conv => whnf) | (refine get_of (by assumption) ?_; conv => whnf) | (refine get_map (by assumption) ?_; conv => whnf) | (refine draw_lex hE ?_ ?_; decide +kernel; conv => whnf) | (refine draw_any hE [⟨1, [(0, none), (1, none), (2, none), (3, some 0), (4, none), (5, none)], none, [], [[]]⟩] ?_ ?_; decide +kernel; conv => whnf) | (refine brd (fun h => ?_) (fun h => ?_) <;> conv => whnf) | (refine br (fun h => ?_) (fun h => ?_) <;> conv => whnf) | (refine ret_now hE ?_; conv => whnf) | (intro hlen; conv => whnf) | (refine seg_here ?_; conv => whnf) | (refine both ?_ ?_ <;> conv => whnf))
  refine loopE (fun k : Nat => ⟨42, [(4, .sl 0 0 k), (9, .lst (l.map declA)), (10, .int .i64 (l.map declA).length), (11, .int .i64 k)], [some (.row 1 (((l.take k).map stS).map V.str))]⟩)
    (fun k => k ≤ l.length ∧ firstE (l.drop k) = firstE l) (fun k => l.length - k) 0 hE ?_ ?_ ⟨Nat.zero_le _, rfl⟩ ?_
  · kernel_rfl
  · exact up_own 4 1 rfl rfl (at_keep [4, 9, 10, 11] rfl)
  intro k hk
  obtain ⟨hk, hI⟩ := hk
  have hol : ((l.take k).map stS).length = k := by simp; omega
  by_cases hlt : k < l.length
  · obtain ⟨x, hx⟩ : ∃ x, l[k]? = some x := ⟨_, List.getElem?_eq_getElem hlt⟩
    have hx' : (l.map declA)[k]? = some (declA x) := by rw [List.getElem?_map, hx]; rfl
    have hst := firstE_step hx
    have htk := take_step stS hx
    have hxm := szD_mem (List.mem_of_getElem? hx)
    have hsl := stS_len x
    have hse : stE x = if nameOk x.1 = false then 5 else if parseS (stS x) = [x] then 0 else 4 := rfl
    have hT : stT l = if firstE l = 0 then (if 600 < (Lib.join (l.map stS) [59, 32]).length then ([], 1) else (Lib.join (l.map stS) [59, 32], 0)) else ([], firstE l) := rfl
    generalize hP : (l.take k).map stS = P at *
    have hPm : (P.map V.str).length = k := by rw [List.length_map, hol]
    have hap : List.take k (List.drop 0 (P.map V.str)) ++ List.take 1 (List.drop 0 [V.str (x.1 ++ [58, 32] ++ x.2)]) = (P ++ [stS x]).map V.str := by
      rw [List.drop_zero, List.take_of_length_le (by omega), List.map_append]
      rfl
    have hem := emit_name x.1
    have hps := (style_parse (stS x) (by omega)).c hC hW kept_gm hG
    have heq := equal_decls (parseS (stS x)) [x]
    have hS : stS x = x.1 ++ [58, 32] ++ x.2 := rfl
    have hxl : szD x = (x.1.length + 1) + (x.2.length + 1) + 1 := rfl
    by_cases hn : nameOk x.1 = false
    · rw [if_pos hn] at hse
      rw [hn] at hem
      rw [hse, if_neg (by decide), hI] at hst
      rw [if_neg (by rw [hst]; decide), hst] at hT
      conv => whnf
      repeat' (first | (refine brd_t (by first | assumption | omega) ?_; conv => whnf) | (refine brd_f (by first | assumption | omega) ?_; conv => whnf) | (refine ask (by first | assumption | omega) ?_; conv => whnf) | (refine fit64 (by omega) ?_; conv => whnf) | (refine fit (by simp only [kmin, kmax]; omega) ?_; conv => whnf) | (refine br_t (by assumption) ?_; conv => whnf) | (refine br_f (by assumption) ?_; conv => whnf) | (refine get_of (by assumption) ?_; conv => whnf) | (refine get_map (by assumption) ?_; conv => whnf) | (refine call_eq (hem) hC hasBody_21 ?_ ?_ ?_; kernel_rfl; kernel_rfl; conv => whnf) | (refine callq_eq (hem) hC hasBody_21 ?_ ?_ ?_; kernel_rfl; kernel_rfl; conv => whnf) | (refine draw_lex hE ?_ ?_; decide +kernel; conv => whnf) | (refine draw_any hE [⟨1, [(0, none), (1, none), (2, none), (3, some 0), (4, none), (5, none)], none, [], [[]]⟩] ?_ ?_; decide +kernel; conv => whnf) | (refine brd (fun h => ?_) (fun h => ?_) <;> conv => whnf) | (refine br (fun h => ?_) (fun h => ?_) <;> conv => whnf) | (refine ret_now hE ?_; conv => whnf) | (intro hlen; conv => whnf) | (refine seg_here ?_; conv => whnf) | (refine both ?_ ?_ <;> conv => whnf))
      all_goals exact ⟨rfl, by rw [hT]; exact nl_se [] 5⟩
    · rw [if_neg hn] at hse
      rw [Bool.not_eq_false] at hn
      rw [hn] at hem
      by_cases hp : parseS (stS x) = [x]
      · rw [if_pos hp] at hse
        rw [hse, if_pos rfl] at hst
        rw [decide_eq_true hp] at heq
        generalize parseS (stS x) = q at *
        rw [hS] at hps
        conv => whnf
        repeat' (first | (refine brd_t (by first | assumption | omega) ?_; conv => whnf) | (refine brd_f (by first | assumption | omega) ?_; conv => whnf) | (refine ask (by first | assumption | omega) ?_; conv => whnf) | (refine fit64 (by omega) ?_; conv => whnf) | (refine fit (by simp only [kmin, kmax]; omega) ?_; conv => whnf) | (refine br_t (by assumption) ?_; conv => whnf) | (refine br_f (by assumption) ?_; conv => whnf) | (refine get_of (by assumption) ?_; conv => whnf) | (refine get_map (by assumption) ?_; conv => whnf) | (refine ask (show x.1.length + 2 ≤ _ by omega) ?_; conv => whnf) | (refine ask (show (x.1 ++ [58, 32]).length + x.2.length ≤ _ by rw [List.length_append]; show x.1.length + 2 + _ ≤ _; omega) ?_; conv => whnf) | (refine ask (Nat.le_refl 1) ?_; conv => whnf) | (refine ask ⟨?_, ?_, ?_⟩ ?_; omega; (show _ + 1 ≤ 9223372036854775807; omega); (show (_ + 1) * _ ≤ 140737488355328; omega); conv => whnf) | (refine call_eq (hem) hC hasBody_21 ?_ ?_ ?_; kernel_rfl; kernel_rfl; conv => whnf) | (refine callq_eq (hem) hC hasBody_21 ?_ ?_ ?_; kernel_rfl; kernel_rfl; conv => whnf) | (refine callc_eq (hps) hC hasBody_19 rfl ?_ ?_ ?_; kernel_rfl; kernel_rfl; conv => whnf) | (refine callcq_eq (hps) hC hasBody_19 rfl ?_ ?_ ?_; kernel_rfl; kernel_rfl; conv => whnf) | (refine callq_lend 2 heq hC hasBody_22 rfl ⟨⟨trivial, trivial, trivial⟩, trivial⟩ rfl (frz_one q x) rfl rfl ?_; conv => whnf) | (refine draw_lex hE ?_ ?_; decide +kernel; conv => whnf) | (refine draw_any hE [⟨1, [(0, none), (1, none), (2, none), (3, some 0), (4, none), (5, none)], none, [], [[]]⟩] ?_ ?_; decide +kernel; conv => whnf) | (refine brd (fun h => ?_) (fun h => ?_) <;> conv => whnf) | (refine br (fun h => ?_) (fun h => ?_) <;> conv => whnf) | (refine ret_now hE ?_; conv => whnf) | (intro hlen; conv => whnf) | (refine seg_here ?_; conv => whnf) | (refine both ?_ ?_ <;> conv => whnf))
        all_goals
          refine next_drop [4, 9, 10, 11] [1, 2, 3] (k + 1) ⟨hlt, by rw [← hst, hI]⟩ (show l.length - (k + 1) < l.length - k by omega) ?_
          conv => whnf
          rw [htk]
          show (⟨42, [(4, .sl 0 0 (k + 1)), (9, .lst (l.map declA)), (10, .int .i64 (l.map declA).length), (11, .int .i64 ((k : Int) + 1))], [some (.row 1 (killL 3 (killL 2 (killL 1 (killL 0 (List.take k (List.drop 0 (P.map V.str)) ++ List.take 1 (List.drop 0 [V.str (x.1 ++ [58, 32] ++ x.2)])))))))]⟩ : ES) = _
          rw [hap, kill_strT, kill_strT, kill_strT, kill_strT]
          rfl
      · rw [if_neg hp] at hse
        rw [hse, if_neg (by decide), hI] at hst
        rw [if_neg (by rw [hst]; decide), hst] at hT
        rw [decide_eq_false hp] at heq
        generalize parseS (stS x) = q at *
        rw [hS] at hps
        conv => whnf
        repeat' (first | (refine brd_t (by first | assumption | omega) ?_; conv => whnf) | (refine brd_f (by first | assumption | omega) ?_; conv => whnf) | (refine ask (by first | assumption | omega) ?_; conv => whnf) | (refine fit64 (by omega) ?_; conv => whnf) | (refine fit (by simp only [kmin, kmax]; omega) ?_; conv => whnf) | (refine br_t (by assumption) ?_; conv => whnf) | (refine br_f (by assumption) ?_; conv => whnf) | (refine get_of (by assumption) ?_; conv => whnf) | (refine get_map (by assumption) ?_; conv => whnf) | (refine ask (show x.1.length + 2 ≤ _ by omega) ?_; conv => whnf) | (refine ask (show (x.1 ++ [58, 32]).length + x.2.length ≤ _ by rw [List.length_append]; show x.1.length + 2 + _ ≤ _; omega) ?_; conv => whnf) | (refine ask (Nat.le_refl 1) ?_; conv => whnf) | (refine ask ⟨?_, ?_, ?_⟩ ?_; omega; (show _ + 1 ≤ 9223372036854775807; omega); (show (_ + 1) * _ ≤ 140737488355328; omega); conv => whnf) | (refine call_eq (hem) hC hasBody_21 ?_ ?_ ?_; kernel_rfl; kernel_rfl; conv => whnf) | (refine callq_eq (hem) hC hasBody_21 ?_ ?_ ?_; kernel_rfl; kernel_rfl; conv => whnf) | (refine callc_eq (hps) hC hasBody_19 rfl ?_ ?_ ?_; kernel_rfl; kernel_rfl; conv => whnf) | (refine callcq_eq (hps) hC hasBody_19 rfl ?_ ?_ ?_; kernel_rfl; kernel_rfl; conv => whnf) | (refine callq_lend 2 heq hC hasBody_22 rfl ⟨⟨trivial, trivial, trivial⟩, trivial⟩ rfl (frz_one q x) rfl rfl ?_; conv => whnf) | (refine draw_lex hE ?_ ?_; decide +kernel; conv => whnf) | (refine draw_any hE [⟨1, [(0, none), (1, none), (2, none), (3, some 0), (4, none), (5, none)], none, [], [[]]⟩] ?_ ?_; decide +kernel; conv => whnf) | (refine brd (fun h => ?_) (fun h => ?_) <;> conv => whnf) | (refine br (fun h => ?_) (fun h => ?_) <;> conv => whnf) | (refine ret_now hE ?_; conv => whnf) | (intro hlen; conv => whnf) | (refine seg_here ?_; conv => whnf) | (refine both ?_ ?_ <;> conv => whnf))
        all_goals exact ⟨rfl, by rw [hT]; exact nl_se [] 4⟩
  · have hkn : k = l.length := by omega
    subst hkn
    rw [List.drop_length, firstE] at hI
    rw [List.take_length] at *
    have hjl := stJ_len l
    have hj := join_strs (l.map stS) [59, 32] (by omega) (by omega)
    have hT : stT l = if firstE l = 0 then (if 600 < (Lib.join (l.map stS) [59, 32]).length then ([], 1) else (Lib.join (l.map stS) [59, 32], 0)) else ([], firstE l) := rfl
    rw [if_pos hI.symm] at hT
    conv => whnf
    repeat' (first | (refine brd_t (by first | assumption | omega) ?_; conv => whnf) | (refine brd_f (by first | assumption | omega) ?_; conv => whnf) | (refine ask (by first | assumption | omega) ?_; conv => whnf) | (refine fit64 (by omega) ?_; conv => whnf) | (refine fit (by simp only [kmin, kmax]; omega) ?_; conv => whnf) | (refine br_t (by assumption) ?_; conv => whnf) | (refine br_f (by assumption) ?_; conv => whnf) | (refine get_of (by assumption) ?_; conv => whnf) | (refine get_map (by assumption) ?_; conv => whnf) | (refine call_up (up_frzK 0 36 [] (z := 1) (els := (l.map stS).map V.str) rfl (nr_strs _) rfl (by simp) rfl (up_here ?_))) | (refine call_eq (hj) hC hasBody_23 ?_ ?_ ?_; kernel_rfl; kernel_rfl; conv => whnf) | (refine callq_eq (hj) hC hasBody_23 ?_ ?_ ?_; kernel_rfl; kernel_rfl; conv => whnf) | (refine draw_lex hE ?_ ?_; decide +kernel; conv => whnf) | (refine draw_any hE [⟨1, [(0, none), (1, none), (2, none), (3, some 0), (4, none), (5, none)], none, [], [[]]⟩] ?_ ?_; decide +kernel; conv => whnf) | (refine brd (fun h => ?_) (fun h => ?_) <;> conv => whnf) | (refine br (fun h => ?_) (fun h => ?_) <;> conv => whnf) | (refine ret_now hE ?_; conv => whnf) | (intro hlen; conv => whnf) | (refine seg_here ?_; conv => whnf) | (refine both ?_ ?_ <;> conv => whnf))
    · exact ⟨rfl, by rw [hT, if_pos (by omega)]; exact nl_se [] 1⟩
    · exact ⟨rfl, by rw [hT, if_neg (by omega)]; exact nl_se _ 0⟩
end Go.Proofs.YtaeeceabnkgnnaaDoor

/-! The document's StyleText, walked. No conditions. -/
namespace Go.Proofs.YtaeeceabnkgnnaaDoor
open Go.RowKit

set_option maxHeartbeats 16000000 in
theorem ref_text (l : List Dc) (hz : (l.map szD).sum ≤ 1048576) : Fn1 Tryd.prog 12 [.lst (l.map declA)] (fun r => r = .tup [.str (stT l).1, .int .i64 (stT l).2]) := by
  have hlm := decls_len l
  have hzl := szD_len l
  refine fn1_nl ?_
  refine fn1E (T := Tryd.tt) Tryd.func12 rfl tt_all follows_all ?_ ?_ fun C hC hE => ?_
  · kernel_rfl
  · exact Nat.le_of_ble_eq_true (by kernel_rfl)
  conv => whnf
  repeat' (first | (refine brd_t (by first | assumption | omega) ?_; conv => whnf) | (refine brd_f (by first | assumption | omega) ?_; conv => whnf) | (refine ask (by first | assumption | omega) ?_; conv => whnf) | (refine fit64 (by omega) ?_; conv => whnf) | (refine fit (by simp only [kmin, kmax]; omega) ?_; conv => whnf) | (refine br_t (by assumption) ?_; conv => whnf) | (refine br_f (by assumption) ?_; conv => whnf) | (refine get_of (by assumption) ?_; conv => whnf) | (refine get_map (by assumption) ?_; conv => whnf) | (refine draw_lex hE ?_ ?_; decide +kernel; conv => whnf) | (refine draw_any hE [⟨0, [(0, none), (1, none), (2, none), (3, none), (4, none), (5, none), (6, none), (7, none), (8, none), (9, none)], none, [], [[]]⟩] ?_ ?_; decide +kernel; conv => whnf) | (refine brd (fun h => ?_) (fun h => ?_) <;> conv => whnf) | (refine br (fun h => ?_) (fun h => ?_) <;> conv => whnf) | (refine ret_now hE ?_; conv => whnf) | (intro hlen; conv => whnf) | (refine seg_here ?_; conv => whnf) | (refine both ?_ ?_ <;> conv => whnf))
  refine loopE (fun k : Nat => ⟨50, [(4, .str (Lib.join ((l.take k).map stS) [59, 32])), (9, .lst (l.map declA)), (10, .int .i64 (l.map declA).length), (11, .int .i64 k)], []⟩)
    (fun k => k ≤ l.length ∧ firstE (l.drop k) = firstE l) (fun k => l.length - k) 0 hE ?_ ?_ ⟨Nat.zero_le _, rfl⟩ ?_
  · kernel_rfl
  · exact at_keep [4, 9, 10, 11] rfl
  intro k hk
  obtain ⟨hk, hI⟩ := hk
  have hol : ((l.take k).map stS).length = k := by simp; omega
  have hjt := stJ_take l k
  by_cases hlt : k < l.length
  · obtain ⟨x, hx⟩ : ∃ x, l[k]? = some x := ⟨_, List.getElem?_eq_getElem hlt⟩
    have hx' : (l.map declA)[k]? = some (declA x) := by rw [List.getElem?_map, hx]; rfl
    have hst := firstE_step hx
    have htk := take_step stS hx
    have hxm := szD_mem (List.mem_of_getElem? hx)
    have hsl := stS_len x
    have hse : stE x = if nameOk x.1 = false then 5 else if parseS (stS x) = [x] then 0 else 4 := rfl
    have hT : stT l = if firstE l = 0 then (if 600 < (Lib.join (l.map stS) [59, 32]).length then ([], 1) else (Lib.join (l.map stS) [59, 32], 0)) else ([], firstE l) := rfl
    generalize hP : (l.take k).map stS = P at *
    have hjs : Lib.join (P ++ [stS x]) [59, 32] = if P = [] then stS x else Lib.join P [59, 32] ++ [59, 32] ++ stS x := join_snoc P (stS x) [59, 32]
    have hjn : Lib.join [] [59, 32] = [] := rfl
    have hem := name_may x.1
    have hps := ref_style (stS x) (by omega) (by rw [← bare_eq _ _ (Nat.lt_succ_self _)]; exact bareP_len _ _)
    rw [doc_eq] at hps
    have hS : stS x = x.1 ++ [58, 32] ++ x.2 := rfl
    have hSl : (x.1 ++ [58, 32] ++ x.2).length + 1 = szD x := by rw [← hS]; exact hsl
    have hxl : szD x = (x.1.length + 1) + (x.2.length + 1) + 1 := rfl
    by_cases hn : nameOk x.1 = false
    · rw [if_pos hn] at hse
      rw [hn] at hem
      rw [hse, if_neg (by decide), hI] at hst
      rw [if_neg (by rw [hst]; decide), hst] at hT
      conv => whnf
      repeat' (first | (refine brd_t (by first | assumption | omega) ?_; conv => whnf) | (refine brd_f (by first | assumption | omega) ?_; conv => whnf) | (refine ask (by first | assumption | omega) ?_; conv => whnf) | (refine fit64 (by omega) ?_; conv => whnf) | (refine fit (by simp only [kmin, kmax]; omega) ?_; conv => whnf) | (refine br_t (by assumption) ?_; conv => whnf) | (refine br_f (by assumption) ?_; conv => whnf) | (refine get_of (by assumption) ?_; conv => whnf) | (refine get_map (by assumption) ?_; conv => whnf) | (refine call_eq (hem) hC hasBody_24 ?_ ?_ ?_; kernel_rfl; kernel_rfl; conv => whnf) | (refine callq_eq (hem) hC hasBody_24 ?_ ?_ ?_; kernel_rfl; kernel_rfl; conv => whnf) | (refine draw_lex hE ?_ ?_; decide +kernel; conv => whnf) | (refine draw_any hE [⟨0, [(0, none), (1, none), (2, none), (3, none), (4, none), (5, none), (6, none), (7, none), (8, none), (9, none)], none, [], [[]]⟩] ?_ ?_; decide +kernel; conv => whnf) | (refine brd (fun h => ?_) (fun h => ?_) <;> conv => whnf) | (refine br (fun h => ?_) (fun h => ?_) <;> conv => whnf) | (refine ret_now hE ?_; conv => whnf) | (intro hlen; conv => whnf) | (refine seg_here ?_; conv => whnf) | (refine both ?_ ?_ <;> conv => whnf))
      all_goals exact ⟨rfl, by rw [hT]; exact nl_se [] 5⟩
    · rw [if_neg hn] at hse
      rw [Bool.not_eq_false] at hn
      rw [hn] at hem
      by_cases hp : parseS (stS x) = [x]
      · rw [if_pos hp] at hse
        rw [hse, if_pos rfl] at hst
        rw [hp] at hps
        have hps2 : Fn1 Tryd.prog 20 [.str (x.1 ++ [58, 32] ++ x.2)] (fun r => r = .lst [declA x]) := hps
        clear hps
        by_cases hk0 : k = 0
        · have hP0 : P = [] := List.length_eq_zero_iff.1 (by omega)
          rw [if_pos hP0] at hjs
          conv => whnf
          repeat' (first | (refine brd_t (by first | assumption | omega) ?_; conv => whnf) | (refine brd_f (by first | assumption | omega) ?_; conv => whnf) | (refine ask (by first | assumption | omega) ?_; conv => whnf) | (refine fit64 (by omega) ?_; conv => whnf) | (refine fit (by simp only [kmin, kmax]; omega) ?_; conv => whnf) | (refine br_t (by assumption) ?_; conv => whnf) | (refine br_f (by assumption) ?_; conv => whnf) | (refine get_of (by assumption) ?_; conv => whnf) | (refine get_map (by assumption) ?_; conv => whnf) | (refine ask (show x.1.length + 2 ≤ _ by omega) ?_; conv => whnf) | (refine ask (show (x.1 ++ [58, 32]).length + x.2.length ≤ _ by rw [List.length_append]; show x.1.length + 2 + _ ≤ _; omega) ?_; conv => whnf) | (refine brd_t rfl ?_; conv => whnf) | (refine ask (show (Lib.join P [59, 32]).length + (x.1 ++ [58, 32] ++ x.2).length ≤ _ by omega) ?_; conv => whnf) | (refine ask (show (Lib.join P [59, 32]).length + 2 ≤ _ by omega) ?_; conv => whnf) | (refine ask (show (Lib.join P [59, 32] ++ [59, 32]).length + (x.1 ++ [58, 32] ++ x.2).length ≤ _ by rw [List.length_append]; show (Lib.join P [59, 32]).length + 2 + _ ≤ _; omega) ?_; conv => whnf) | (refine call_eq (hem) hC hasBody_24 ?_ ?_ ?_; kernel_rfl; kernel_rfl; conv => whnf) | (refine callq_eq (hem) hC hasBody_24 ?_ ?_ ?_; kernel_rfl; kernel_rfl; conv => whnf) | (refine call_eq (hps2) hC hasBody_20 ?_ ?_ ?_; kernel_rfl; kernel_rfl; conv => whnf) | (refine callq_eq (hps2) hC hasBody_20 ?_ ?_ ?_; kernel_rfl; kernel_rfl; conv => whnf) | (refine draw_lex hE ?_ ?_; decide +kernel; conv => whnf) | (refine draw_any hE [⟨0, [(0, none), (1, none), (2, none), (3, none), (4, none), (5, none), (6, none), (7, none), (8, none), (9, none)], none, [], [[]]⟩] ?_ ?_; decide +kernel; conv => whnf) | (refine brd (fun h => ?_) (fun h => ?_) <;> conv => whnf) | (refine br (fun h => ?_) (fun h => ?_) <;> conv => whnf) | (refine ret_now hE ?_; conv => whnf) | (intro hlen; conv => whnf) | (refine seg_here ?_; conv => whnf) | (refine both ?_ ?_ <;> conv => whnf))
          all_goals first
            | (exfalso; simp_all; done)
            | (refine next_drop [4, 9, 10, 11] [0] (k + 1) ⟨hlt, by rw [← hst, hI]⟩ (show l.length - (k + 1) < l.length - k by omega) ?_
               conv => whnf
               rw [htk, hjs, hP0, hjn]
               rfl)
        · have hP0 : P ≠ [] := fun e => hk0 (by rw [← hol, e]; rfl)
          rw [if_neg hP0] at hjs
          conv => whnf
          repeat' (first | (refine brd_t (by first | assumption | omega) ?_; conv => whnf) | (refine brd_f (by first | assumption | omega) ?_; conv => whnf) | (refine ask (by first | assumption | omega) ?_; conv => whnf) | (refine fit64 (by omega) ?_; conv => whnf) | (refine fit (by simp only [kmin, kmax]; omega) ?_; conv => whnf) | (refine br_t (by assumption) ?_; conv => whnf) | (refine br_f (by assumption) ?_; conv => whnf) | (refine get_of (by assumption) ?_; conv => whnf) | (refine get_map (by assumption) ?_; conv => whnf) | (refine ask (show x.1.length + 2 ≤ _ by omega) ?_; conv => whnf) | (refine ask (show (x.1 ++ [58, 32]).length + x.2.length ≤ _ by rw [List.length_append]; show x.1.length + 2 + _ ≤ _; omega) ?_; conv => whnf) | (refine brd_t rfl ?_; conv => whnf) | (refine ask (show (Lib.join P [59, 32]).length + (x.1 ++ [58, 32] ++ x.2).length ≤ _ by omega) ?_; conv => whnf) | (refine ask (show (Lib.join P [59, 32]).length + 2 ≤ _ by omega) ?_; conv => whnf) | (refine ask (show (Lib.join P [59, 32] ++ [59, 32]).length + (x.1 ++ [58, 32] ++ x.2).length ≤ _ by rw [List.length_append]; show (Lib.join P [59, 32]).length + 2 + _ ≤ _; omega) ?_; conv => whnf) | (refine call_eq (hem) hC hasBody_24 ?_ ?_ ?_; kernel_rfl; kernel_rfl; conv => whnf) | (refine callq_eq (hem) hC hasBody_24 ?_ ?_ ?_; kernel_rfl; kernel_rfl; conv => whnf) | (refine call_eq (hps2) hC hasBody_20 ?_ ?_ ?_; kernel_rfl; kernel_rfl; conv => whnf) | (refine callq_eq (hps2) hC hasBody_20 ?_ ?_ ?_; kernel_rfl; kernel_rfl; conv => whnf) | (refine draw_lex hE ?_ ?_; decide +kernel; conv => whnf) | (refine draw_any hE [⟨0, [(0, none), (1, none), (2, none), (3, none), (4, none), (5, none), (6, none), (7, none), (8, none), (9, none)], none, [], [[]]⟩] ?_ ?_; decide +kernel; conv => whnf) | (refine brd (fun h => ?_) (fun h => ?_) <;> conv => whnf) | (refine br (fun h => ?_) (fun h => ?_) <;> conv => whnf) | (refine ret_now hE ?_; conv => whnf) | (intro hlen; conv => whnf) | (refine seg_here ?_; conv => whnf) | (refine both ?_ ?_ <;> conv => whnf))
          all_goals first
            | (exfalso; simp_all; done)
            | (refine next_drop [4, 9, 10, 11] [0] (k + 1) ⟨hlt, by rw [← hst, hI]⟩ (show l.length - (k + 1) < l.length - k by omega) ?_
               conv => whnf
               rw [htk, hjs]
               rfl)
      · rw [if_neg hp] at hse
        rw [hse, if_neg (by decide), hI] at hst
        rw [if_neg (by rw [hst]; decide), hst] at hT
        match hq : parseS (stS x) with
        | [] =>
          rw [hq] at hps
          have hps2 : Fn1 Tryd.prog 20 [.str (x.1 ++ [58, 32] ++ x.2)] (fun r => r = .lst []) := hps
          clear hps
          conv => whnf
          repeat' (first | (refine brd_t (by first | assumption | omega) ?_; conv => whnf) | (refine brd_f (by first | assumption | omega) ?_; conv => whnf) | (refine ask (by first | assumption | omega) ?_; conv => whnf) | (refine fit64 (by omega) ?_; conv => whnf) | (refine fit (by simp only [kmin, kmax]; omega) ?_; conv => whnf) | (refine br_t (by assumption) ?_; conv => whnf) | (refine br_f (by assumption) ?_; conv => whnf) | (refine get_of (by assumption) ?_; conv => whnf) | (refine get_map (by assumption) ?_; conv => whnf) | (refine ask (show x.1.length + 2 ≤ _ by omega) ?_; conv => whnf) | (refine ask (show (x.1 ++ [58, 32]).length + x.2.length ≤ _ by rw [List.length_append]; show x.1.length + 2 + _ ≤ _; omega) ?_; conv => whnf) | (refine brd_t rfl ?_; conv => whnf) | (refine ask (show (Lib.join P [59, 32]).length + (x.1 ++ [58, 32] ++ x.2).length ≤ _ by omega) ?_; conv => whnf) | (refine ask (show (Lib.join P [59, 32]).length + 2 ≤ _ by omega) ?_; conv => whnf) | (refine ask (show (Lib.join P [59, 32] ++ [59, 32]).length + (x.1 ++ [58, 32] ++ x.2).length ≤ _ by rw [List.length_append]; show (Lib.join P [59, 32]).length + 2 + _ ≤ _; omega) ?_; conv => whnf) | (refine call_eq (hem) hC hasBody_24 ?_ ?_ ?_; kernel_rfl; kernel_rfl; conv => whnf) | (refine callq_eq (hem) hC hasBody_24 ?_ ?_ ?_; kernel_rfl; kernel_rfl; conv => whnf) | (refine call_eq (hps2) hC hasBody_20 ?_ ?_ ?_; kernel_rfl; kernel_rfl; conv => whnf) | (refine callq_eq (hps2) hC hasBody_20 ?_ ?_ ?_; kernel_rfl; kernel_rfl; conv => whnf) | (refine draw_lex hE ?_ ?_; decide +kernel; conv => whnf) | (refine draw_any hE [⟨0, [(0, none), (1, none), (2, none), (3, none), (4, none), (5, none), (6, none), (7, none), (8, none), (9, none)], none, [], [[]]⟩] ?_ ?_; decide +kernel; conv => whnf) | (refine brd (fun h => ?_) (fun h => ?_) <;> conv => whnf) | (refine br (fun h => ?_) (fun h => ?_) <;> conv => whnf) | (refine ret_now hE ?_; conv => whnf) | (intro hlen; conv => whnf) | (refine seg_here ?_; conv => whnf) | (refine both ?_ ?_ <;> conv => whnf))
          all_goals first | exact ⟨rfl, by rw [hT]; exact nl_se [] 4⟩ | (exfalso; simp_all; done)
        | y :: z :: r =>
          rw [hq] at hps
          have hps2 : Fn1 Tryd.prog 20 [.str (x.1 ++ [58, 32] ++ x.2)] (fun r' => r' = .lst ((y :: z :: r).map declA)) := hps
          have hlr : ((y :: z :: r).map declA).length = r.length + 1 + 1 := by simp
          generalize (y :: z :: r).map declA = Q at *
          clear hps
          conv => whnf
          repeat' (first | (refine brd_t (by first | assumption | omega) ?_; conv => whnf) | (refine brd_f (by first | assumption | omega) ?_; conv => whnf) | (refine ask (by first | assumption | omega) ?_; conv => whnf) | (refine fit64 (by omega) ?_; conv => whnf) | (refine fit (by simp only [kmin, kmax]; omega) ?_; conv => whnf) | (refine br_t (by assumption) ?_; conv => whnf) | (refine br_f (by assumption) ?_; conv => whnf) | (refine get_of (by assumption) ?_; conv => whnf) | (refine get_map (by assumption) ?_; conv => whnf) | (refine ask (show x.1.length + 2 ≤ _ by omega) ?_; conv => whnf) | (refine ask (show (x.1 ++ [58, 32]).length + x.2.length ≤ _ by rw [List.length_append]; show x.1.length + 2 + _ ≤ _; omega) ?_; conv => whnf) | (refine brd_t rfl ?_; conv => whnf) | (refine ask (show (Lib.join P [59, 32]).length + (x.1 ++ [58, 32] ++ x.2).length ≤ _ by omega) ?_; conv => whnf) | (refine ask (show (Lib.join P [59, 32]).length + 2 ≤ _ by omega) ?_; conv => whnf) | (refine ask (show (Lib.join P [59, 32] ++ [59, 32]).length + (x.1 ++ [58, 32] ++ x.2).length ≤ _ by rw [List.length_append]; show (Lib.join P [59, 32]).length + 2 + _ ≤ _; omega) ?_; conv => whnf) | (refine call_eq (hem) hC hasBody_24 ?_ ?_ ?_; kernel_rfl; kernel_rfl; conv => whnf) | (refine callq_eq (hem) hC hasBody_24 ?_ ?_ ?_; kernel_rfl; kernel_rfl; conv => whnf) | (refine call_eq (hps2) hC hasBody_20 ?_ ?_ ?_; kernel_rfl; kernel_rfl; conv => whnf) | (refine callq_eq (hps2) hC hasBody_20 ?_ ?_ ?_; kernel_rfl; kernel_rfl; conv => whnf) | (refine draw_lex hE ?_ ?_; decide +kernel; conv => whnf) | (refine draw_any hE [⟨0, [(0, none), (1, none), (2, none), (3, none), (4, none), (5, none), (6, none), (7, none), (8, none), (9, none)], none, [], [[]]⟩] ?_ ?_; decide +kernel; conv => whnf) | (refine brd (fun h => ?_) (fun h => ?_) <;> conv => whnf) | (refine br (fun h => ?_) (fun h => ?_) <;> conv => whnf) | (refine ret_now hE ?_; conv => whnf) | (intro hlen; conv => whnf) | (refine seg_here ?_; conv => whnf) | (refine both ?_ ?_ <;> conv => whnf))
          all_goals exact ⟨rfl, by rw [hT]; exact nl_se [] 4⟩
        | [y] =>
          rw [hq] at hps hp
          have hps2 : Fn1 Tryd.prog 20 [.str (x.1 ++ [58, 32] ++ x.2)] (fun r => r = .lst [declA y]) := hps
          clear hps
          conv => whnf
          repeat' (first | (refine brd_t (by first | assumption | omega) ?_; conv => whnf) | (refine brd_f (by first | assumption | omega) ?_; conv => whnf) | (refine ask (by first | assumption | omega) ?_; conv => whnf) | (refine fit64 (by omega) ?_; conv => whnf) | (refine fit (by simp only [kmin, kmax]; omega) ?_; conv => whnf) | (refine br_t (by assumption) ?_; conv => whnf) | (refine br_f (by assumption) ?_; conv => whnf) | (refine get_of (by assumption) ?_; conv => whnf) | (refine get_map (by assumption) ?_; conv => whnf) | (refine ask (show x.1.length + 2 ≤ _ by omega) ?_; conv => whnf) | (refine ask (show (x.1 ++ [58, 32]).length + x.2.length ≤ _ by rw [List.length_append]; show x.1.length + 2 + _ ≤ _; omega) ?_; conv => whnf) | (refine brd_t rfl ?_; conv => whnf) | (refine ask (show (Lib.join P [59, 32]).length + (x.1 ++ [58, 32] ++ x.2).length ≤ _ by omega) ?_; conv => whnf) | (refine ask (show (Lib.join P [59, 32]).length + 2 ≤ _ by omega) ?_; conv => whnf) | (refine ask (show (Lib.join P [59, 32] ++ [59, 32]).length + (x.1 ++ [58, 32] ++ x.2).length ≤ _ by rw [List.length_append]; show (Lib.join P [59, 32]).length + 2 + _ ≤ _; omega) ?_; conv => whnf) | (refine call_eq (hem) hC hasBody_24 ?_ ?_ ?_; kernel_rfl; kernel_rfl; conv => whnf) | (refine callq_eq (hem) hC hasBody_24 ?_ ?_ ?_; kernel_rfl; kernel_rfl; conv => whnf) | (refine call_eq (hps2) hC hasBody_20 ?_ ?_ ?_; kernel_rfl; kernel_rfl; conv => whnf) | (refine callq_eq (hps2) hC hasBody_20 ?_ ?_ ?_; kernel_rfl; kernel_rfl; conv => whnf) | (refine draw_lex hE ?_ ?_; decide +kernel; conv => whnf) | (refine draw_any hE [⟨0, [(0, none), (1, none), (2, none), (3, none), (4, none), (5, none), (6, none), (7, none), (8, none), (9, none)], none, [], [[]]⟩] ?_ ?_; decide +kernel; conv => whnf) | (refine brd (fun h => ?_) (fun h => ?_) <;> conv => whnf) | (refine br (fun h => ?_) (fun h => ?_) <;> conv => whnf) | (refine ret_now hE ?_; conv => whnf) | (intro hlen; conv => whnf) | (refine seg_here ?_; conv => whnf) | (refine both ?_ ?_ <;> conv => whnf))
          all_goals first
            | exact ⟨rfl, by rw [hT]; exact nl_se [] 4⟩
            | (exfalso; exact hp (congrArg (fun u => [u]) (Prod.ext (by assumption) (by assumption))))
  · have hkn : k = l.length := by omega
    subst hkn
    rw [List.drop_length, firstE] at hI
    rw [List.take_length] at *
    have hT : stT l = if firstE l = 0 then (if 600 < (Lib.join (l.map stS) [59, 32]).length then ([], 1) else (Lib.join (l.map stS) [59, 32], 0)) else ([], firstE l) := rfl
    rw [if_pos hI.symm] at hT
    conv => whnf
    repeat' (first | (refine brd_t (by first | assumption | omega) ?_; conv => whnf) | (refine brd_f (by first | assumption | omega) ?_; conv => whnf) | (refine ask (by first | assumption | omega) ?_; conv => whnf) | (refine fit64 (by omega) ?_; conv => whnf) | (refine fit (by simp only [kmin, kmax]; omega) ?_; conv => whnf) | (refine br_t (by assumption) ?_; conv => whnf) | (refine br_f (by assumption) ?_; conv => whnf) | (refine get_of (by assumption) ?_; conv => whnf) | (refine get_map (by assumption) ?_; conv => whnf) | (refine draw_lex hE ?_ ?_; decide +kernel; conv => whnf) | (refine draw_any hE [⟨0, [(0, none), (1, none), (2, none), (3, none), (4, none), (5, none), (6, none), (7, none), (8, none), (9, none)], none, [], [[]]⟩] ?_ ?_; decide +kernel; conv => whnf) | (refine brd (fun h => ?_) (fun h => ?_) <;> conv => whnf) | (refine br (fun h => ?_) (fun h => ?_) <;> conv => whnf) | (refine ret_now hE ?_; conv => whnf) | (intro hlen; conv => whnf) | (refine seg_here ?_; conv => whnf) | (refine both ?_ ?_ <;> conv => whnf))
    · exact ⟨rfl, by rw [hT, if_pos (by omega)]; exact nl_se [] 1⟩
    · exact ⟨rfl, by rw [hT, if_neg (by omega)]; exact nl_se _ 0⟩
end Go.Proofs.YtaeeceabnkgnnaaDoor
