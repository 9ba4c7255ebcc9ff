/- pick.Find, walked. No conditions. -/
import Derived.Test.YtaapdbcbefnhgaaFindLaw
import Derived.Test.YtaapdbcbefnhgaaFresh
import Derived.Test.YtaapdbcbefnhgaaReadAuto
set_option linter.unusedSimpArgs false
set_option linter.unusedVariables false
set_option maxRecDepth 100000
namespace Go.Proofs.Ytaapdbcbefnhgaa
open Go.RowKit

/-- Nil slices among the arguments are empty slices. -/
theorem hfn_anl {P : Program} {f : FuncId} {args : List V} {objs : List Ob} {fixed : List Nat} {R : V → List Ob → Prop} (h : HFn P f (nlL args) objs fixed R) : HFn P f args objs fixed R :=
  fun w I bl vs h1 h2 h3 => h w I bl vs (by rw [nlL_length]; exact h1) (fun i v x hv hx => by
    obtain ⟨y, hy, rfl⟩ := nlL_get args i x hx
    exact (h2 i v y hv hy).nl) h3
def pthV (l : List (List Int)) : List V := l.map ints
theorem pthV_len (l : List (List Int)) : (pthV l).length = l.length := by simp [pthV]
theorem pthV_app (a b : List (List Int)) : pthV (a ++ b) = pthV a ++ pthV b := by simp [pthV]
theorem pthV_nr : ∀ l : List (List Int), nrL (pthV l)
  | [] => trivial
  | x :: l => ⟨trivial, pthV_nr l⟩
theorem pthV_kill (id : Nat) (l : List (List Int)) : killL id (pthV l) = pthV l := kill_nrL _ (pthV_nr l)
theorem pthV_frz (id : Nat) (els : List V) (l : List (List Int)) : frzL id els (pthV l) = pthV l := frz_nrL _ _ (pthV_nr l)
theorem cells_pi (p : List Int) : ∀ y ∈ p.map (V.int .i64), y.cells.length = 1 := fun y hy => by obtain ⟨q, _, rfl⟩ := List.mem_map.1 hy; rfl

/-! ### pick.fits -/
theorem fits1 (p : Pk) (a : Atr) : Fn1 Try.prog 89 [attA a, .rp (pickC p)] (fun r => r = .bool (decide (a.name = p.2.1))) := by
  by_cases h : a.name = p.2.1
  · rw [decide_eq_true h]
    refine fn1E (T := Try.tt) Try.func89 rfl tt_all follows_all ?_ ?_ fun C hC hE => ?_
    · kernel_rfl
    · exact Nat.le_of_ble_eq_true (by kernel_rfl)
    conv => whnf
    repeat' (first | (refine brd_t (by first | assumption | omega) ?_; conv => whnf) | (refine brd_f (by first | assumption | omega) ?_; conv => whnf) | (refine ask (by first | assumption | omega) ?_; conv => whnf) | (refine fit64 (by omega) ?_; conv => whnf) | (refine fit (by simp only [kmin, kmax]; omega) ?_; conv => whnf) | (refine br_t (by assumption) ?_; conv => whnf) | (refine br_f (by assumption) ?_; conv => whnf) | (refine get_of (by assumption) ?_; conv => whnf) | (refine get_map (by assumption) ?_; conv => whnf) | (refine draw_lex hE ?_ ?_; decide +kernel; conv => whnf) | (refine brd (fun h => ?_) (fun h => ?_) <;> conv => whnf) | (refine br (fun h => ?_) (fun h => ?_) <;> conv => whnf) | (refine ret_now hE ?_; conv => whnf) | (intro hlen; conv => whnf) | (refine seg_here ?_; conv => whnf))
    exact ⟨rfl, rfl⟩
  · rw [decide_eq_false h]
    refine fn1E (T := Try.tt) Try.func89 rfl tt_all follows_all ?_ ?_ fun C hC hE => ?_
    · kernel_rfl
    · exact Nat.le_of_ble_eq_true (by kernel_rfl)
    conv => whnf
    repeat' (first | (refine brd_t (by first | assumption | omega) ?_; conv => whnf) | (refine brd_f (by first | assumption | omega) ?_; conv => whnf) | (refine ask (by first | assumption | omega) ?_; conv => whnf) | (refine fit64 (by omega) ?_; conv => whnf) | (refine fit (by simp only [kmin, kmax]; omega) ?_; conv => whnf) | (refine br_t (by assumption) ?_; conv => whnf) | (refine br_f (by assumption) ?_; conv => whnf) | (refine get_of (by assumption) ?_; conv => whnf) | (refine get_map (by assumption) ?_; conv => whnf) | (refine draw_lex hE ?_ ?_; decide +kernel; conv => whnf) | (refine brd (fun h => ?_) (fun h => ?_) <;> conv => whnf) | (refine br (fun h => ?_) (fun h => ?_) <;> conv => whnf) | (refine ret_now hE ?_; conv => whnf) | (intro hlen; conv => whnf) | (refine seg_here ?_; conv => whnf))
    exact ⟨rfl, rfl⟩
theorem indexFunc_101 (l : List Atr) (h : FuncId) (caps : List V) (p : Atr → Bool) (hb : hasBody Try.prog h = true) (hc : nrB caps = true) (hp : ∀ a ∈ l, Fn1 Try.prog h (attA a :: caps) (fun r => r = .bool (p a))) :
    Fn1 Try.prog 101 [.lst (l.map attA), .fn h caps] (fun r => r = .int .i64 (idxOf p l)) := by
  refine fn1E (T := Try.tt) Try.func101 rfl tt_all follows_all ?_ ?_ fun C hC hE => ?_
  · kernel_rfl
  · exact Nat.le_of_ble_eq_true (by kernel_rfl)
  conv => whnf
  intro hl
  conv => whnf
  refine loopE (fun k : Nat => ⟨19, [(0, .lst (l.map attA)), (1, .fn h caps), (7, .int .i64 (l.map attA).length), (8, .int .i64 k)], []⟩) (fun k => k ≤ l.length ∧ ∀ j < k, ∀ x, l[j]? = some x → p x = false) (fun k => l.length - k) 0 hE ?_ ?_ ?_ ?_
  · kernel_rfl
  · exact at_keep [0, 1, 7, 8] rfl
  · exact ⟨Nat.zero_le _, fun j hj => by omega⟩
  intro k hkj
  obtain ⟨hk, hj⟩ := hkj
  have hlm : (l.map attA).length = l.length := by simp
  by_cases hlt : k < l.length
  · obtain ⟨x, hx⟩ : ∃ x, l[k]? = some x := ⟨_, List.getElem?_eq_getElem hlt⟩
    have hpx := hp x (List.mem_of_getElem? hx)
    conv => whnf
    repeat' (first | (refine brd_t (by first | assumption | omega) ?_; conv => whnf) | (refine brd_f (by first | assumption | omega) ?_; conv => whnf) | (refine ask (by first | assumption | omega) ?_; conv => whnf) | (refine fit64 (by omega) ?_; conv => whnf) | (refine fit (by simp only [kmin, kmax]; omega) ?_; conv => whnf) | (refine br_t (by assumption) ?_; conv => whnf) | (refine br_f (by assumption) ?_; conv => whnf) | (refine get_of (by assumption) ?_; conv => whnf) | (refine get_map (by assumption) ?_; conv => whnf) | (refine call_eq hpx hC hb ?_ ?_ ?_; kernel_rfl; exact nrB_tail (by kernel_rfl) hc; conv => whnf) | (refine draw_lex hE ?_ ?_; decide +kernel; conv => whnf) | (refine brd (fun h => ?_) (fun h => ?_) <;> conv => whnf) | (refine br (fun h => ?_) (fun h => ?_) <;> conv => whnf) | (refine ret_now hE ?_; conv => whnf) | (intro hlen; conv => whnf) | (refine seg_here ?_; conv => whnf))
    · exact ⟨rfl, by rw [idxOf_hit hx (by assumption) hj]⟩
    · refine next_keep [0, 1, 7, 8] (k + 1) ⟨hlt, ?_⟩ (by omega) rfl
      intro j hjk y hy
      by_cases e : j = k
      · subst e; rw [hx] at hy; cases hy; assumption
      · exact hj j (by omega) y hy
  · conv => whnf
    repeat' (first | (refine brd_t (by first | assumption | omega) ?_; conv => whnf) | (refine brd_f (by first | assumption | omega) ?_; conv => whnf) | (refine ask (by first | assumption | omega) ?_; conv => whnf) | (refine fit64 (by omega) ?_; conv => whnf) | (refine fit (by simp only [kmin, kmax]; omega) ?_; conv => whnf) | (refine br_t (by assumption) ?_; conv => whnf) | (refine br_f (by assumption) ?_; conv => whnf) | (refine get_of (by assumption) ?_; conv => whnf) | (refine get_map (by assumption) ?_; conv => whnf) | (refine draw_lex hE ?_ ?_; decide +kernel; conv => whnf) | (refine brd (fun h => ?_) (fun h => ?_) <;> conv => whnf) | (refine br (fun h => ?_) (fun h => ?_) <;> conv => whnf) | (refine ret_now hE ?_; conv => whnf) | (intro hlen; conv => whnf) | (refine seg_here ?_; conv => whnf))
    exact ⟨rfl, by rw [idxOf_miss (fun x hx => by obtain ⟨j, hj'⟩ := List.mem_iff_getElem?.1 hx; exact hj j (by have := (List.getElem?_eq_some_iff.1 hj').1; omega) x hj')]⟩

theorem containsFunc_88 (l : List Atr) (h : FuncId) (caps : List V) (p : Atr → Bool) (hb : hasBody Try.prog h = true) (hc : nrB caps = true) (hp : ∀ a ∈ l, Fn1 Try.prog h (attA a :: caps) (fun r => r = .bool (p a))) :
    Fn1 Try.prog 88 [.lst (l.map attA), .fn h caps] (fun r => r = .bool (l.any p)) := by
  have hi := indexFunc_101 l h caps p hb hc hp
  have ha := idxOf_any p l
  refine fn1E (T := Try.tt) Try.func88 rfl tt_all follows_all ?_ ?_ fun C hC hE => ?_
  · kernel_rfl
  · exact Nat.le_of_ble_eq_true (by kernel_rfl)
  conv => whnf
  repeat' (first | (refine brd_t (by first | assumption | omega) ?_; conv => whnf) | (refine brd_f (by first | assumption | omega) ?_; conv => whnf) | (refine ask (by first | assumption | omega) ?_; conv => whnf) | (refine fit64 (by omega) ?_; conv => whnf) | (refine fit (by simp only [kmin, kmax]; omega) ?_; conv => whnf) | (refine br_t (by assumption) ?_; conv => whnf) | (refine br_f (by assumption) ?_; conv => whnf) | (refine get_of (by assumption) ?_; conv => whnf) | (refine get_map (by assumption) ?_; conv => whnf) | (refine call_eq hi hC hasBody_101 ?_ ?_ ?_; kernel_rfl; exact nrB_fn rfl hc; conv => whnf) | (refine draw_lex hE ?_ ?_; decide +kernel; conv => whnf) | (refine brd (fun h => ?_) (fun h => ?_) <;> conv => whnf) | (refine br (fun h => ?_) (fun h => ?_) <;> conv => whnf) | (refine ret_now hE ?_; conv => whnf) | (intro hlen; conv => whnf) | (refine seg_here ?_; conv => whnf))
  all_goals exact ⟨rfl, by rw [← ha]; congr 1; first | exact (decide_eq_true (by assumption)).symm | exact (decide_eq_false (by assumption)).symm⟩

theorem pick_fits (p : Pk) (n : List UInt8) (a : List Atr) (t : List UInt8) (ps : List Nd) : Fn1 Try.prog 67 [pickA p, .agg [.str n, .lst (a.map attA), .str t, .lst (nodesL ps)]] (fun r => r = .bool (decide (n ≠ []) && hasB p (.mk n a t ps))) := by
  obtain ⟨pn, pa, pd⟩ := p
  have hcf := containsFunc_88 a 89 [.rp (pickC (pn, pa, pd))] (fun a => decide (a.name = pa)) hasBody_89 rfl (fun q _ => fits1 (pn, pa, pd) q)
  obtain ⟨b, hb⟩ : ∃ b, (a.any fun a => decide (a.name = pa)) = b := ⟨_, rfl⟩
  rw [hb] at hcf
  have hB : (decide (n ≠ []) && hasB (pn, pa, pd) (.mk n a t ps)) = (decide (n ≠ []) && ((decide (pn = []) || decide (pn = n)) && (decide (pa = []) || b))) := by
    rw [← hb]; rfl
  rw [hB]
  clear hB
  cases pd
  all_goals
    refine fn1E (T := Try.tt) Try.func67 rfl tt_all follows_all ?_ ?_ fun C hC hE => ?_
    · kernel_rfl
    · exact Nat.le_of_ble_eq_true (by kernel_rfl)
    conv => whnf
    repeat' (first | (refine brd_t (by first | assumption | omega) ?_; conv => whnf) | (refine brd_f (by first | assumption | omega) ?_; conv => whnf) | (refine ask (by first | assumption | omega) ?_; conv => whnf) | (refine fit64 (by omega) ?_; conv => whnf) | (refine fit (by simp only [kmin, kmax]; omega) ?_; conv => whnf) | (refine br_t (by assumption) ?_; conv => whnf) | (refine br_f (by assumption) ?_; conv => whnf) | (refine get_of (by assumption) ?_; conv => whnf) | (refine get_map (by assumption) ?_; conv => whnf) | (refine call_up (up_freeze 0 (z := 3) (els := [pickA (pn, pa, _)]) rfl ?_ (up_here ?_)); exact ⟨⟨trivial, trivial, trivial, trivial⟩, trivial⟩; conv => whnf) | (refine call_eq (hcf) hC hasBody_88 ?_ ?_ ?_; kernel_rfl; kernel_rfl; conv => whnf) | (refine callq_eq (hcf) hC hasBody_88 ?_ ?_ ?_; kernel_rfl; kernel_rfl; conv => whnf) | (refine draw_lex hE ?_ ?_; decide +kernel; conv => whnf) | (refine brd (fun h => ?_) (fun h => ?_) <;> conv => whnf) | (refine br (fun h => ?_) (fun h => ?_) <;> conv => whnf) | (refine ret_now hE ?_; conv => whnf) | (intro hlen; conv => whnf) | (refine seg_here ?_; conv => whnf))
    all_goals first
      | exact ⟨rfl, by simp_all⟩
      | trace_state

/-! ### The finder's walk -/
def rV (P : List Pk) (ch : List Nd) : List V := (bits (rightB P ch) P.length).map V.bool
def wV (P : List Pk) (ch : List Nd) : List V := (bits (withB P ch) P.length).map V.bool
def obF (P : List Pk) (out : List (List Int)) : List Ob := [.row 2 [.agg [.lst (P.map pickA), .sl 1 0 out.length]], .row 1 (pthV out)]
theorem nr_picks (P : List Pk) : nrL (P.map pickA) := by
  induction P with
  | nil => trivial
  | cons x l ih => exact ⟨⟨trivial, trivial, trivial, trivial⟩, ih⟩
theorem sz_take {l : List Nd} {k : Nat} {x : Nd} (hx : l[k]? = some x) : szL (l.take (k + 1)) = szL (l.take k) + szN x := by
  rw [szL_sum, szL_sum, List.take_add_one, hx, List.map_append, List.sum_append]
  simp
theorem sz_take_le (l : List Nd) (k : Nat) : szL (l.take k) ≤ szL l := by
  rw [szL_sum, szL_sum]
  induction l generalizing k with
  | nil => simp
  | cons x l ih =>
    cases k with
    | zero => simp
    | succ k => simp only [List.take_succ_cons, List.map_cons, List.sum_cons]; have := ih k; omega
set_option maxHeartbeats 16000000 in
theorem h_find (P : List Pk) (hP : 1 ≤ P.length ∧ P.length ≤ 10) : ∀ (N : Nat) (l ch : List Nd) (path : List Int) (out : List (List Int)), szL l ≤ N → out.length + szL l ≤ 2097152 → path.length + szL l ≤ 1048576 →
    HFn Try.prog 41 [.ptr 0 0 0, .lst (nodesL l), ints path, .lst (rV P ch), .lst (wV P ch)] (obF P out) [0]
    (fun r o => r = .tup [] ∧ o = obF P (out ++ fndL P ch path 0 l)) := by
  intro N
  induction N using Nat.strongRecOn with
  | _ N ih =>
    intro l ch path out hps hb1 hb2
    have hlm := nodesL_length l
    have hll := szL_len l
    refine hfnE (T := Try.tt) Try.func41 rfl tt_all follows_all ?_ ?_ fun C vs hC hE => ?_
    · kernel_rfl
    · exact Nat.le_of_ble_eq_true (by kernel_rfl)
    conv => whnf
    repeat' (first | (refine brd_t (by first | assumption | omega) ?_; conv => whnf) | (refine brd_f (by first | assumption | omega) ?_; conv => whnf) | (refine ask (by first | assumption | omega) ?_; conv => whnf) | (refine fit64 (by omega) ?_; conv => whnf) | (refine fit (by simp only [kmin, kmax]; omega) ?_; conv => whnf) | (refine br_t (by assumption) ?_; conv => whnf) | (refine br_f (by assumption) ?_; conv => whnf) | (refine get_of (by assumption) ?_; conv => whnf) | (refine get_map (by assumption) ?_; conv => whnf) | (refine draw_lex hE ?_ ?_; decide +kernel; conv => whnf) | (refine draw_any hE [⟨2, [(0, none), (1, none), (2, none), (3, none), (4, none), (6, none), (5, some 0), (7, some 1), (8, none), (9, none)], none⟩] ?_ ?_; decide +kernel; conv => whnf) | (refine brd (fun h => ?_) (fun h => ?_) <;> conv => whnf) | (refine br (fun h => ?_) (fun h => ?_) <;> conv => whnf) | (refine ret_now hE ?_; conv => whnf) | (intro hlen; conv => whnf) | (refine seg_here ?_; conv => whnf))
    refine loopE (fun ((k, cur) : Nat × List (List Int)) => ⟨123, [(0, .ptr 0 0 0), (2, ints path), (3, .lst (rV P ch)), (4, .lst (wV P ch)), (18, .lst (nodesL l)), (19, .int .i64 (nodesL l).length), (20, .int .i64 k)], [some (.row 2 [.agg [.lst (P.map pickA), .sl 1 0 cur.length]]), some (.row 1 (pthV cur)), some (.hid vs [.ptr 0 0 0, .lst (nodesL l), ints path, .lst (rV P ch), .lst (wV P ch)])]⟩)
      (fun (k, cur) => k ≤ l.length ∧ cur.length ≤ out.length + szL (l.take k) ∧ cur ++ fndL P ch path k (l.drop k) = out ++ fndL P ch path 0 l) (fun (k, _) => l.length - k) (0, out) hE ?_ ?_ ⟨Nat.zero_le _, Nat.le_add_right _ _, rfl⟩ ?_
    · kernel_rfl
    · exact at_keep [0, 2, 3, 4, 18, 19, 20] rfl
    rintro ⟨k, cur⟩ ⟨hk, hcl, hI⟩
    have hom := pthV_len cur
    have htl := sz_take_le l k
    by_cases hlt : k < l.length
    · obtain ⟨n, a, t, qs, hx, hx'⟩ := node_at hlt
      have hst := fndL_step (P := P) (ch := ch) (path := path) hx
      rw [hst] at hI
      have hp2 := szL_mem (List.mem_of_getElem? hx)
      have e1 : szN (.mk n a t qs) = (n.length + 1) + ((a.map szA).sum + 1) + (t.length + 1) + (szL qs + 1) + 1 := by simp only [szN, szS]
      have htl2 := sz_take_le l (k + 1)
      have hszk := sz_take hx
      by_cases hn : n = []
      · rw [if_pos (show (Nd.mk n a t qs).name = [] from hn), List.nil_append] at hI
        conv => whnf
        repeat' (first | (refine brd_t (by first | assumption | omega) ?_; conv => whnf) | (refine brd_f (by first | assumption | omega) ?_; conv => whnf) | (refine ask (by first | assumption | omega) ?_; conv => whnf) | (refine fit64 (by omega) ?_; conv => whnf) | (refine fit (by simp only [kmin, kmax]; omega) ?_; conv => whnf) | (refine br_t (by assumption) ?_; conv => whnf) | (refine br_f (by assumption) ?_; conv => whnf) | (refine get_of (by assumption) ?_; conv => whnf) | (refine get_map (by assumption) ?_; conv => whnf) | (refine draw_lex hE ?_ ?_; decide +kernel; conv => whnf) | (refine draw_any hE [⟨2, [(0, none), (1, none), (2, none), (3, none), (4, none), (6, none), (5, some 0), (7, some 1), (8, none), (9, none)], none⟩] ?_ ?_; decide +kernel; conv => whnf) | (refine brd (fun h => ?_) (fun h => ?_) <;> conv => whnf) | (refine br (fun h => ?_) (fun h => ?_) <;> conv => whnf) | (refine ret_now hE ?_; conv => whnf) | (intro hlen; conv => whnf) | (refine seg_here ?_; conv => whnf))
        exact next_drop [0, 2, 3, 4, 18, 19, 20] [3] (k + 1, cur) ⟨hlt, by show cur.length ≤ _; omega, hI⟩ (show l.length - (k + 1) < l.length - k by omega) (by
          conv => whnf
          rw [pthV_kill]
          rfl)
      · rw [if_neg (show ¬ (Nd.mk n a t qs).name = [] from hn)] at hI
        have hcl := h_clone_int path (by omega)
        have hbl : (bits (withB P ch) P.length).length = P.length := bits_len _ _
        have hcb := h_clone_bool (bits (withB P ch) P.length) (by omega)
        have hPl : (P.map pickA).length = P.length := by simp
        conv => whnf
        repeat' (first | (refine brd_t (by first | assumption | omega) ?_; conv => whnf) | (refine brd_f (by first | assumption | omega) ?_; conv => whnf) | (refine ask (by first | assumption | omega) ?_; conv => whnf) | (refine fit64 (by omega) ?_; conv => whnf) | (refine fit (by simp only [kmin, kmax]; omega) ?_; conv => whnf) | (refine br_t (by assumption) ?_; conv => whnf) | (refine br_f (by assumption) ?_; conv => whnf) | (refine get_of (by assumption) ?_; conv => whnf) | (refine get_map (by assumption) ?_; conv => whnf) | (refine call_up (up_new 1 (up_here ?_)); (conv => whnf); refine call_fresh hcl hC hasBody_32 4 rfl ?_ rfl (nr_i64 _) ?_; exact rnL_self ⟨trivial, trivial⟩; conv => whnf) | (refine callm hcb hC hasBody_66 ⟨trivial, trivial⟩ (nr_bools _) ?_; conv => whnf) | (refine ask (Nat.le_refl 1) ?_; conv => whnf) | (refine ask ⟨?_, ?_, ?_⟩ ?_; (first | omega | (simp <;> omega)); (show _ + 1 ≤ 9223372036854775807; omega); (show (_ + 1) * _ ≤ 140737488355328; omega); conv => whnf) | (refine draw_lex hE ?_ ?_; decide +kernel; conv => whnf) | (refine draw_any hE [⟨2, [(0, none), (1, none), (2, none), (3, none), (4, none), (6, none), (5, some 0), (7, some 1), (8, none), (9, none)], none⟩] ?_ ?_; decide +kernel; conv => whnf) | (refine brd (fun h => ?_) (fun h => ?_) <;> conv => whnf) | (refine br (fun h => ?_) (fun h => ?_) <;> conv => whnf) | (refine ret_now hE ?_; conv => whnf) | (intro hlen; conv => whnf) | (refine seg_here ?_; conv => whnf))
        have hP1 : killL 4 (List.take path.length (List.drop 0 (path.map (V.int .i64))) ++ List.take 1 (List.drop 0 [V.int .i64 (k : Int)])) = (path ++ [(k : Int)]).map (V.int .i64) := by
          rw [List.drop_zero, List.take_of_length_le (by simp), show (path.map (V.int .i64)) ++ List.take 1 (List.drop 0 [V.int .i64 (k : Int)]) = (path ++ [(k : Int)]).map (V.int .i64) by rw [List.map_append]; rfl, kill_nrL _ (nr_i64 _)]
        have hP2 : path.length + (List.take 1 (List.drop 0 [V.int .i64 (k : Int)])).length = ((path ++ [(k : Int)]).map (V.int .i64)).length := by simp
        refine loopE (fun j : Nat => ⟨123, [(0, .ptr 0 0 0), (2, ints path), (3, .lst (rV P ch)), (4, .lst (wV P ch)), (10, .int .i64 k), (11, .ptr 3 0 0), (12, ints (path ++ [(k : Int)])), (13, .sl 6 0 P.length), (14, .sl 7 0 P.length), (18, .lst (nodesL l)), (19, .int .i64 (nodesL l).length), (20, .int .i64 k), (44, .lst (P.map pickA)), (45, .int .i64 (P.map pickA).length), (46, .int .i64 j)],
            [some (.row 2 [.agg [.lst (P.map pickA), .sl 1 0 cur.length]]), some (.row 1 (pthV cur)), some (.hid vs [.ptr 0 0 0, .lst (nodesL l), ints path, .lst (rV P ch), .lst (wV P ch)]), some (.row 4 [.agg [.str n, .lst (a.map attA), .str t, .lst (nodesL qs)]]), none, none,
              some (.row 1 ((bits (fun i => if i < j then rightB P (ch ++ [.mk n a t qs]) i else false) P.length).map V.bool)), some (.row 1 ((bits (fun i => if i < j then withB P (ch ++ [.mk n a t qs]) i else withB P ch i) P.length).map V.bool))]⟩)
          (fun j => j ≤ P.length) (fun j => P.length - j) 0 hE ?_ ?_ (Nat.zero_le _) ?_
        · kernel_rfl
        · refine up_frzK 4 12 [0, 2, 3, 4, 10, 11, 13, 14, 18, 19, 20, 44, 45, 46] (z := 1) (m := path.length + (List.take 1 (List.drop 0 [V.int .i64 (k : Int)])).length) (els := (path ++ [(k : Int)]).map (V.int .i64)) ?_ (nr_i64 _) ?_ hP2 ?_ (at_drop [0, 2, 3, 4, 10, 11, 12, 13, 14, 18, 19, 20, 44, 45, 46] [5] ?_)
          · exact congrArg (fun x => some (some (Ob.row 1 x))) hP1
          · rfl
          · rfl
          · have h13 : (((P.map pickA).length : Nat) : Int).toNat = P.length := by rw [hPl]; omega
            have h6 : killL 5 (frzL 4 ((path ++ [(k : Int)]).map (V.int .i64)) (List.replicate (((P.map pickA).length : Nat) : Int).toNat (V.bool false))) = (bits (fun i => if i < 0 then rightB P (ch ++ [.mk n a t qs]) i else false) P.length).map V.bool := by
              rw [h13, bits_zero, bits_false, List.map_replicate, ← List.map_replicate (f := V.bool), frz_nrL _ _ (nr_bools _), kill_nrL _ (nr_bools _)]
            have h7 : killL 5 (frzL 4 ((path ++ [(k : Int)]).map (V.int .i64)) ((bits (withB P ch) P.length).map V.bool)) = (bits (fun i => if i < 0 then withB P (ch ++ [.mk n a t qs]) i else withB P ch i) P.length).map V.bool := by
              rw [bits_zero, frz_nrL _ _ (nr_bools _), kill_nrL _ (nr_bools _)]
            conv => whnf
            rw [pthV_kill, pthV_kill, pthV_frz, pthV_kill, h6, h7, h13, hbl]
            rfl
        intro j hj
        generalize hch : ch ++ [Nd.mk n a t qs] = ch' at *
        have hg6 : ∀ i, i < P.length → ((bits (fun i => if i < j then rightB P ch' i else false) P.length).map V.bool)[i]? = some (.bool (if i < j then rightB P ch' i else false)) := fun i hi => bits_v_get hi
        have hg7 : ∀ i, i < P.length → ((bits (fun i => if i < j then withB P ch' i else withB P ch i) P.length).map V.bool)[i]? = some (.bool (if i < j then withB P ch' i else withB P ch i)) := fun i hi => bits_v_get hi
        have hl6 : ((bits (fun i => if i < j then rightB P ch' i else false) P.length).map V.bool).length = P.length := by rw [List.length_map, bits_len]
        have hl7 : ((bits (fun i => if i < j then withB P ch' i else withB P ch i) P.length).map V.bool).length = P.length := by rw [List.length_map, bits_len]
        have hlr : (rV P ch).length = P.length := by unfold rV; rw [List.length_map, bits_len]
        have hlw : (wV P ch).length = P.length := by unfold wV; rw [List.length_map, bits_len]
        by_cases hjl : j < P.length
        · obtain ⟨⟨pn, pa, pd⟩, hp⟩ : ∃ p, P[j]? = some p := ⟨_, List.getElem?_eq_getElem hjl⟩
          have hfit := pick_fits (pn, pa, pd) n a t qs
          rw [show decide (n ≠ []) = true from decide_eq_true hn, Bool.true_and] at hfit
          have hE := mB_step hp ch (.mk n a t qs)
          rw [hch] at hE
          have hW := with_step P ch (.mk n a t qs) j
          rw [hch] at hW
          obtain ⟨ft, hft⟩ : ∃ b, hasB (pn, pa, pd) (.mk n a t qs) = b := ⟨_, rfl⟩
          rw [hft] at hfit hE
          obtain ⟨wj, hwj⟩ : ∃ b, withB P ch j = b := ⟨_, rfl⟩
          rw [hwj] at hW
          have hs6 := bits_set (rightB P ch') (fun _ => false) P.length j
          have hs7 := bits_set (withB P ch') (withB P ch) P.length j
          have hgj6 := hg6 j hjl
          have hgj7 := hg7 j hjl
          rw [if_neg (Nat.lt_irrefl j)] at hgj6 hgj7
          rw [hwj] at hgj7
          have hjz : 0 + ((j : Int)).toNat = j := by omega
          have hset6 : ∀ b, rightB P ch' j = b → killL 4 (((bits (fun i => if i < j then rightB P ch' i else false) P.length).map V.bool).set (0 + ((j : Int)).toNat) (.bool b)) = (bits (fun i => if i < j + 1 then rightB P ch' i else false) P.length).map V.bool := fun b hb => by
            rw [hjz, ← List.map_set, ← hb, hs6, kill_nrL _ (nr_bools _)]
          have hset7 : ∀ b, withB P ch' j = b → killL 4 (((bits (fun i => if i < j then withB P ch' i else withB P ch i) P.length).map V.bool).set (0 + ((j : Int)).toNat) (.bool b)) = (bits (fun i => if i < j + 1 then withB P ch' i else withB P ch i) P.length).map V.bool := fun b hb => by
            rw [hjz, ← List.map_set, ← hb, hs7, kill_nrL _ (nr_bools _)]
          have hgs : ∀ b, (((bits (fun i => if i < j then rightB P ch' i else false) P.length).map V.bool).set (0 + ((j : Int)).toNat) (.bool b))[0 + ((j : Int)).toNat]? = some (.bool b) := fun b => by
            rw [hjz, List.getElem?_set_self (by omega)]
          have hgj6 : ((bits (fun i => if i < j then rightB P ch' i else false) P.length).map V.bool)[0 + ((j : Int)).toNat]? = some (.bool false) := by rw [hjz]; exact hgj6
          have hgj7 : ((bits (fun i => if i < j then withB P ch' i else withB P ch i) P.length).map V.bool)[0 + ((j : Int)).toNat]? = some (.bool wj) := by rw [hjz]; exact hgj7
          by_cases hj0 : j = 0
          · have hR : rightB P ch' j = ft := by
              show mB P (j + 1) ch' = ft
              rw [hE]; simp [hj0]
            rw [hR] at hW
            have hgw := hgj6
            have hgr := hgj6
            cases ft <;> cases wj <;> cases pd
            all_goals
              conv => whnf
              repeat' (first | (refine brd_t (by first | assumption | omega) ?_; conv => whnf) | (refine brd_f (by first | assumption | omega) ?_; conv => whnf) | (refine ask (by first | assumption | omega) ?_; conv => whnf) | (refine fit64 (by omega) ?_; conv => whnf) | (refine fit (by simp only [kmin, kmax]; omega) ?_; conv => whnf) | (refine br_t (by assumption) ?_; conv => whnf) | (refine br_f (by assumption) ?_; conv => whnf) | (refine get_of (by assumption) ?_; conv => whnf) | (refine get_map (by assumption) ?_; conv => whnf) | (refine call_eq (hfit) hC hasBody_67 ?_ ?_ ?_; kernel_rfl; kernel_rfl; conv => whnf) | (refine callq_eq (hfit) hC hasBody_67 ?_ ?_ ?_; kernel_rfl; kernel_rfl; conv => whnf) | (refine get_of hgj6 ?_; conv => whnf) | (refine get_of hgj7 ?_; conv => whnf) | (refine get_of (hgs _) ?_; conv => whnf) | (refine get_of hgw ?_; conv => whnf) | (refine get_of hgr ?_; conv => whnf) | (refine draw_lex hE ?_ ?_; decide +kernel; conv => whnf) | (refine draw_any hE [⟨2, [(0, none), (1, none), (2, none), (3, none), (4, none), (6, none), (5, some 0), (7, some 1), (8, none), (9, none)], none⟩] ?_ ?_; decide +kernel; conv => whnf) | (refine brd (fun h => ?_) (fun h => ?_) <;> conv => whnf) | (refine br (fun h => ?_) (fun h => ?_) <;> conv => whnf) | (refine ret_now hE ?_; conv => whnf) | (intro hlen; conv => whnf) | (refine seg_here ?_; conv => whnf))
              refine next_drop [0, 2, 3, 4, 10, 11, 12, 13, 14, 18, 19, 20, 44, 45, 46] [4] (j + 1) hjl (show P.length - (j + 1) < P.length - j by omega) ?_
              conv => whnf
              (try simp only [Bool.or_false, Bool.or_true, Bool.and_false, Bool.and_true, Bool.false_and, Bool.true_and, if_true, Bool.false_eq_true, if_false] at hR)
              (try simp only [Bool.or_false, Bool.or_true, Bool.and_false, Bool.and_true, Bool.false_and, Bool.true_and, if_true, Bool.false_eq_true, if_false] at hW)
              rw [pthV_kill, hset6 _ hR, hset7 _ hW]
              rfl
          · have hgw : (wV P ch)[((j : Int) - 1).toNat]? = some (.bool (withB P ch (j - 1))) := by
              rw [show ((j : Int) - 1).toNat = j - 1 by omega]
              exact bits_v_get (by omega)
            have hgr : (rV P ch)[((j : Int) - 1).toNat]? = some (.bool (rightB P ch (j - 1))) := by
              rw [show ((j : Int) - 1).toNat = j - 1 by omega]
              exact bits_v_get (by omega)
            have hR : rightB P ch' j = (ft && (if pd = true then withB P ch (j - 1) else rightB P ch (j - 1))) := by
              show mB P (j + 1) ch' = _
              rw [hE]
              unfold withB rightB
              rw [show j - 1 + 1 = j by omega]
              simp [hj0]
            rw [hR] at hW
            obtain ⟨b1, hb1⟩ : ∃ b, withB P ch (j - 1) = b := ⟨_, rfl⟩
            obtain ⟨b2, hb2⟩ : ∃ b, rightB P ch (j - 1) = b := ⟨_, rfl⟩
            rw [hb1] at hgw
            rw [hb2] at hgr
            rw [hb1, hb2] at hR hW
            cases ft <;> cases wj <;> cases pd <;> cases b1 <;> cases b2
            all_goals
              conv => whnf
              repeat' (first | (refine brd_t (by first | assumption | omega) ?_; conv => whnf) | (refine brd_f (by first | assumption | omega) ?_; conv => whnf) | (refine ask (by first | assumption | omega) ?_; conv => whnf) | (refine fit64 (by omega) ?_; conv => whnf) | (refine fit (by simp only [kmin, kmax]; omega) ?_; conv => whnf) | (refine br_t (by assumption) ?_; conv => whnf) | (refine br_f (by assumption) ?_; conv => whnf) | (refine get_of (by assumption) ?_; conv => whnf) | (refine get_map (by assumption) ?_; conv => whnf) | (refine call_eq (hfit) hC hasBody_67 ?_ ?_ ?_; kernel_rfl; kernel_rfl; conv => whnf) | (refine callq_eq (hfit) hC hasBody_67 ?_ ?_ ?_; kernel_rfl; kernel_rfl; conv => whnf) | (refine get_of hgj6 ?_; conv => whnf) | (refine get_of hgj7 ?_; conv => whnf) | (refine get_of (hgs _) ?_; conv => whnf) | (refine get_of hgw ?_; conv => whnf) | (refine get_of hgr ?_; conv => whnf) | (refine draw_lex hE ?_ ?_; decide +kernel; conv => whnf) | (refine draw_any hE [⟨2, [(0, none), (1, none), (2, none), (3, none), (4, none), (6, none), (5, some 0), (7, some 1), (8, none), (9, none)], none⟩] ?_ ?_; decide +kernel; conv => whnf) | (refine brd (fun h => ?_) (fun h => ?_) <;> conv => whnf) | (refine br (fun h => ?_) (fun h => ?_) <;> conv => whnf) | (refine ret_now hE ?_; conv => whnf) | (intro hlen; conv => whnf) | (refine seg_here ?_; conv => whnf))
              refine next_drop [0, 2, 3, 4, 10, 11, 12, 13, 14, 18, 19, 20, 44, 45, 46] [4] (j + 1) hjl (show P.length - (j + 1) < P.length - j by omega) ?_
              conv => whnf
              (try simp only [Bool.or_false, Bool.or_true, Bool.and_false, Bool.and_true, Bool.false_and, Bool.true_and, if_true, Bool.false_eq_true, if_false] at hR)
              (try simp only [Bool.or_false, Bool.or_true, Bool.and_false, Bool.and_true, Bool.false_and, Bool.true_and, if_true, Bool.false_eq_true, if_false] at hW)
              rw [pthV_kill, hset6 _ hR, hset7 _ hW]
              rfl
        · have hjm : j = P.length := by omega
          subst hjm
          have hge : ((bits (fun i => if i < P.length then rightB P ch' i else false) P.length).map V.bool)[0 + ((P.length : Int) - 1).toNat]? = some (.bool (mB P P.length ch')) := by
            rw [show 0 + ((P.length : Int) - 1).toNat = P.length - 1 by omega, hg6 _ (by omega), if_pos (by omega)]
            show some (V.bool (mB P (P.length - 1 + 1) ch')) = _
            rw [show P.length - 1 + 1 = P.length by omega]
          have hlr' : P.length = (rV P ch').length := by unfold rV; rw [List.length_map, bits_len]
          have hlw' : P.length = (wV P ch').length := by unfold wV; rw [List.length_map, bits_len]
          have hfz := fndL_sz P qs ch' (path ++ [(k : Int)]) 0
          have hpl : (path ++ [(k : Int)]).length = path.length + 1 := by simp
          rw [fndS] at hI
          have h6 : ((bits (fun i => if i < P.length then rightB P ch' i else false) P.length).map V.bool) = rV P ch' := by rw [bits_full]; rfl
          have h7 : ((bits (fun i => if i < P.length then withB P ch' i else withB P ch i) P.length).map V.bool) = wV P ch' := by rw [bits_full]; rfl
          rw [h6] at hge
          obtain ⟨b, hb⟩ : ∃ b, mB P P.length ch' = b := ⟨_, rfl⟩
          rw [hb] at hge hI
          simp only [h6, h7]
          cases b
          · rw [if_neg (by simp), List.nil_append] at hI
            have ih' := ih (szL qs) (by omega) qs ch' (path ++ [(k : Int)]) cur (Nat.le_refl _) (by omega) (by omega)
            conv => whnf
            repeat' (first | (refine brd_t (by first | assumption | omega) ?_; conv => whnf) | (refine brd_f (by first | assumption | omega) ?_; conv => whnf) | (refine ask (by first | assumption | omega) ?_; conv => whnf) | (refine fit64 (by omega) ?_; conv => whnf) | (refine fit (by simp only [kmin, kmax]; omega) ?_; conv => whnf) | (refine br_t (by assumption) ?_; conv => whnf) | (refine br_f (by assumption) ?_; conv => whnf) | (refine get_of (by assumption) ?_; conv => whnf) | (refine get_map (by assumption) ?_; conv => whnf) | (refine get_of hge ?_; conv => whnf) | (refine draw_lex hE ?_ ?_; decide +kernel; conv => whnf) | (refine draw_any hE [⟨2, [(0, none), (1, none), (2, none), (3, none), (4, none), (6, none), (5, some 0), (7, some 1), (8, none), (9, none)], none⟩] ?_ ?_; decide +kernel; conv => whnf) | (refine brd (fun h => ?_) (fun h => ?_) <;> conv => whnf) | (refine br (fun h => ?_) (fun h => ?_) <;> conv => whnf) | (refine ret_now hE ?_; conv => whnf) | (intro hlen; conv => whnf) | (refine seg_here ?_; conv => whnf))
            refine call_up (up_frzK 6 119 [0, 2, 3, 4, 18, 19, 20, 115, 117, 118, 120] (z := 1) (m := P.length) (els := rV P ch') ?_ (nr_bools _) ?_ hlr' ?_ (up_frzK 7 120 [0, 2, 3, 4, 18, 19, 20, 115, 117, 118, 119] (z := 1) (m := P.length) (els := wV P ch') ?_ (nr_bools _) ?_ hlw' ?_
              (up_drops [3, 4] (up_trimE (up_same [some (.row 2 [.agg [.lst (P.map pickA), .sl 1 0 (cur).length]]), some (.row 1 (pthV (cur))), some (.hid vs [.ptr 0 0 0, .lst (nodesL l), ints path, .lst (rV P ch), .lst (wV P ch)])] ?_ (up_here ?_))))))
            · first | rfl | exact congrArg (fun x => some (some (Ob.row 1 x))) (kill_nrL _ (nr_bools _))
            · rfl
            · rfl
            · first | exact congrArg (fun x => some (some (Ob.row 1 x))) (frz_nrL _ _ (nr_bools _)) | exact congrArg (fun x => some (some (Ob.row 1 x))) ((congrArg (frzL 6 _) (kill_nrL 1 (nr_bools _))).trans (frz_nrL _ _ (nr_bools _)))
            · rfl
            · rfl
            · conv => whnf
              rw [pthV_frz, pthV_frz, pthV_kill, pthV_kill]
              rfl
            conv => whnf
            refine call_id ih' hC (by kernel_rfl) rfl (by simp [rnL, rnV, ints, rV, wV, obF]) ?_ [1] ?_ ?_ (by simp [rnL, rnV]) ?_ rfl ?_
            · intro j o ho
              match j, ho with
              | 0, ho => injection (show some _ = some o from ho) with ho; subst ho; exact ⟨rfl, _, rfl, by simp [rnL, rnV, obF]⟩
              | 1, ho => injection (show some _ = some o from ho) with ho; subst ho; exact ⟨rfl, rnO_nr (pthV_nr _)⟩
              | m + 2, ho => simp [obF] at ho
            · intro j hj hn
              simp [obF] at hj hn ⊢
              omega
            · intro j hj
              simp [obF] at hj ⊢
              omega
            · intro j o ho
              match j, ho with
              | 0, ho => injection (show some _ = some o from ho) with ho; subst ho; exact ⟨_, rfl, by simp [rnL, rnV, obF]⟩
              | 1, ho => injection (show some _ = some o from ho) with ho; subst ho; exact rnO_nr (pthV_nr _)
              | m + 2, ho => simp [obF] at ho
            conv => whnf
            repeat' (first | (refine brd_t (by first | assumption | omega) ?_; conv => whnf) | (refine brd_f (by first | assumption | omega) ?_; conv => whnf) | (refine ask (by first | assumption | omega) ?_; conv => whnf) | (refine fit64 (by omega) ?_; conv => whnf) | (refine fit (by simp only [kmin, kmax]; omega) ?_; conv => whnf) | (refine br_t (by assumption) ?_; conv => whnf) | (refine br_f (by assumption) ?_; conv => whnf) | (refine get_of (by assumption) ?_; conv => whnf) | (refine get_map (by assumption) ?_; conv => whnf) | (refine draw_lex hE ?_ ?_; decide +kernel; conv => whnf) | (refine draw_any hE [⟨2, [(0, none), (1, none), (2, none), (3, none), (4, none), (6, none), (5, some 0), (7, some 1), (8, none), (9, none)], none⟩] ?_ ?_; decide +kernel; conv => whnf) | (refine brd (fun h => ?_) (fun h => ?_) <;> conv => whnf) | (refine br (fun h => ?_) (fun h => ?_) <;> conv => whnf) | (refine ret_now hE ?_; conv => whnf) | (intro hlen; conv => whnf) | (refine seg_here ?_; conv => whnf))
            refine next_drop [0, 2, 3, 4, 18, 19, 20] [] (k + 1, cur ++ fndL P ch' (path ++ [(k : Int)]) 0 qs) ⟨hlt, ?_, ?_⟩ (show l.length - (k + 1) < l.length - k by omega) ?_
            · show (cur ++ fndL P ch' (path ++ [(k : Int)]) 0 qs).length ≤ out.length + szL (l.take (k + 1))
              rw [List.length_append]
              omega
            · show (cur ++ fndL P ch' (path ++ [(k : Int)]) 0 qs) ++ fndL P ch path (k + 1) (l.drop (k + 1)) = _
              rw [← hI]
              simp
            · conv => whnf
              rfl
          · rw [if_pos rfl] at hI
            have hcl2 : (cur ++ [path ++ [(k : Int)]]).length = cur.length + 1 := by simp
            have ih' := ih (szL qs) (by omega) qs ch' (path ++ [(k : Int)]) (cur ++ [path ++ [(k : Int)]]) (Nat.le_refl _) (by omega) (by omega)
            conv => whnf
            repeat' (first | (refine brd_t (by first | assumption | omega) ?_; conv => whnf) | (refine brd_f (by first | assumption | omega) ?_; conv => whnf) | (refine ask (by first | assumption | omega) ?_; conv => whnf) | (refine fit64 (by omega) ?_; conv => whnf) | (refine fit (by simp only [kmin, kmax]; omega) ?_; conv => whnf) | (refine br_t (by assumption) ?_; conv => whnf) | (refine br_f (by assumption) ?_; conv => whnf) | (refine get_of (by assumption) ?_; conv => whnf) | (refine get_map (by assumption) ?_; conv => whnf) | (refine get_of hge ?_; conv => whnf) | (refine ask (Nat.le_refl 1) ?_; conv => whnf) | (refine ask ⟨?_, ?_, ?_⟩ ?_; (first | omega | (simp <;> omega)); (show _ + 1 ≤ 9223372036854775807; omega); (show (_ + 1) * _ ≤ 140737488355328; omega); conv => whnf) | (refine draw_lex hE ?_ ?_; decide +kernel; conv => whnf) | (refine draw_any hE [⟨2, [(0, none), (1, none), (2, none), (3, none), (4, none), (6, none), (5, some 0), (7, some 1), (8, none), (9, none)], none⟩] ?_ ?_; decide +kernel; conv => whnf) | (refine brd (fun h => ?_) (fun h => ?_) <;> conv => whnf) | (refine br (fun h => ?_) (fun h => ?_) <;> conv => whnf) | (refine ret_now hE ?_; conv => whnf) | (intro hlen; conv => whnf) | (refine seg_here ?_; conv => whnf))
            refine call_up (up_frzK 6 119 [0, 2, 3, 4, 18, 19, 20, 115, 117, 118, 120] (z := 1) (m := P.length) (els := rV P ch') ?_ (nr_bools _) ?_ hlr' ?_ (up_frzK 7 120 [0, 2, 3, 4, 18, 19, 20, 115, 117, 118, 119] (z := 1) (m := P.length) (els := wV P ch') ?_ (nr_bools _) ?_ hlw' ?_
              (up_drops [3, 4] (up_trimE (up_same [some (.row 2 [.agg [.lst (P.map pickA), .sl 1 0 ((cur ++ [path ++ [(k : Int)]])).length]]), some (.row 1 (pthV ((cur ++ [path ++ [(k : Int)]])))), some (.hid vs [.ptr 0 0 0, .lst (nodesL l), ints path, .lst (rV P ch), .lst (wV P ch)])] ?_ (up_here ?_))))))
            · first | rfl | exact congrArg (fun x => some (some (Ob.row 1 x))) (kill_nrL _ (nr_bools _))
            · rfl
            · rfl
            · first | exact congrArg (fun x => some (some (Ob.row 1 x))) (frz_nrL _ _ (nr_bools _)) | exact congrArg (fun x => some (some (Ob.row 1 x))) ((congrArg (frzL 6 _) (kill_nrL 1 (nr_bools _))).trans (frz_nrL _ _ (nr_bools _)))
            · rfl
            · rfl
            · have hA : List.take cur.length (List.drop 0 (pthV cur)) ++ List.take 1 (List.drop 0 [V.lst ((path ++ [(k : Int)]).map (V.int .i64))]) = pthV (cur ++ [path ++ [(k : Int)]]) := by
                rw [List.drop_zero, List.take_of_length_le (by omega), pthV_app]
                rfl
              have hcl3 : cur.length + (List.take 1 (List.drop 0 [V.lst ((path ++ [(k : Int)]).map (V.int .i64))])).length = (cur ++ [path ++ [(k : Int)]]).length := by simp
              conv => whnf
              rw [hA, pthV_kill, pthV_frz, pthV_frz, pthV_kill, pthV_kill, hcl3]
              rfl
            conv => whnf
            refine call_id ih' hC (by kernel_rfl) rfl (by simp [rnL, rnV, ints, rV, wV, obF]) ?_ [1] ?_ ?_ (by simp [rnL, rnV]) ?_ rfl ?_
            · intro j o ho
              match j, ho with
              | 0, ho => injection (show some _ = some o from ho) with ho; subst ho; exact ⟨rfl, _, rfl, by simp [rnL, rnV, obF]⟩
              | 1, ho => injection (show some _ = some o from ho) with ho; subst ho; exact ⟨rfl, rnO_nr (pthV_nr _)⟩
              | m + 2, ho => simp [obF] at ho
            · intro j hj hn
              simp [obF] at hj hn ⊢
              omega
            · intro j hj
              simp [obF] at hj ⊢
              omega
            · intro j o ho
              match j, ho with
              | 0, ho => injection (show some _ = some o from ho) with ho; subst ho; exact ⟨_, rfl, by simp [rnL, rnV, obF]⟩
              | 1, ho => injection (show some _ = some o from ho) with ho; subst ho; exact rnO_nr (pthV_nr _)
              | m + 2, ho => simp [obF] at ho
            conv => whnf
            repeat' (first | (refine brd_t (by first | assumption | omega) ?_; conv => whnf) | (refine brd_f (by first | assumption | omega) ?_; conv => whnf) | (refine ask (by first | assumption | omega) ?_; conv => whnf) | (refine fit64 (by omega) ?_; conv => whnf) | (refine fit (by simp only [kmin, kmax]; omega) ?_; conv => whnf) | (refine br_t (by assumption) ?_; conv => whnf) | (refine br_f (by assumption) ?_; conv => whnf) | (refine get_of (by assumption) ?_; conv => whnf) | (refine get_map (by assumption) ?_; conv => whnf) | (refine draw_lex hE ?_ ?_; decide +kernel; conv => whnf) | (refine draw_any hE [⟨2, [(0, none), (1, none), (2, none), (3, none), (4, none), (6, none), (5, some 0), (7, some 1), (8, none), (9, none)], none⟩] ?_ ?_; decide +kernel; conv => whnf) | (refine brd (fun h => ?_) (fun h => ?_) <;> conv => whnf) | (refine br (fun h => ?_) (fun h => ?_) <;> conv => whnf) | (refine ret_now hE ?_; conv => whnf) | (intro hlen; conv => whnf) | (refine seg_here ?_; conv => whnf))
            refine next_drop [0, 2, 3, 4, 18, 19, 20] [] (k + 1, (cur ++ [path ++ [(k : Int)]]) ++ fndL P ch' (path ++ [(k : Int)]) 0 qs) ⟨hlt, ?_, ?_⟩ (show l.length - (k + 1) < l.length - k by omega) ?_
            · show ((cur ++ [path ++ [(k : Int)]]) ++ fndL P ch' (path ++ [(k : Int)]) 0 qs).length ≤ out.length + szL (l.take (k + 1))
              rw [List.length_append]
              have := hcl2; omega
            · show ((cur ++ [path ++ [(k : Int)]]) ++ fndL P ch' (path ++ [(k : Int)]) 0 qs) ++ fndL P ch path (k + 1) (l.drop (k + 1)) = _
              rw [← hI]
              simp
            · conv => whnf
              rfl
    · rw [List.drop_eq_nil_of_le (by omega), fndL, List.append_nil] at hI
      conv => whnf
      repeat' (first | (refine brd_t (by first | assumption | omega) ?_; conv => whnf) | (refine brd_f (by first | assumption | omega) ?_; conv => whnf) | (refine ask (by first | assumption | omega) ?_; conv => whnf) | (refine fit64 (by omega) ?_; conv => whnf) | (refine fit (by simp only [kmin, kmax]; omega) ?_; conv => whnf) | (refine br_t (by assumption) ?_; conv => whnf) | (refine br_f (by assumption) ?_; conv => whnf) | (refine get_of (by assumption) ?_; conv => whnf) | (refine get_map (by assumption) ?_; conv => whnf) | (refine draw_lex hE ?_ ?_; decide +kernel; conv => whnf) | (refine draw_any hE [⟨2, [(0, none), (1, none), (2, none), (3, none), (4, none), (6, none), (5, some 0), (7, some 1), (8, none), (9, none)], none⟩] ?_ ?_; decide +kernel; conv => whnf) | (refine brd (fun h => ?_) (fun h => ?_) <;> conv => whnf) | (refine br (fun h => ?_) (fun h => ?_) <;> conv => whnf) | (refine ret_now hE ?_; conv => whnf) | (intro hlen; conv => whnf) | (refine seg_here ?_; conv => whnf))
      refine hret_now hE ?_
      conv => whnf
      exact ⟨rfl, rfl, rfl, by rw [hI]; rfl⟩
end Go.Proofs.Ytaapdbcbefnhgaa
