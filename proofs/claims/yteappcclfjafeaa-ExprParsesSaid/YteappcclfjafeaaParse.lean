/- expr.Parse, walked. No conditions. -/
import Derived.Test.YteappcclfjafeaaParseEq
import Derived.Test.YteappcclfjafeaaIdx
import Derived.Test.YteappcclfjafeaaFresh
import Derived.Test.YteappcclfjafeaaOwnF
set_option linter.unusedSimpArgs false
set_option linter.unusedVariables false
set_option maxRecDepth 100000
namespace Go.Proofs.Yteappcclfjafeaa
open Go.RowKit

/-- Nil slices among the arguments, and in the result, are empty slices. -/
theorem fn1_anl {P : Program} {f : FuncId} {args : List V} {R : V → Prop} (h : Fn1 P f (nlL args) R) : Fn1 P f args R := by
  intro w I vs hl hv hI
  exact h w I vs (by rw [nlL_length]; exact hl) (fun i v x hvi hx => by
    obtain ⟨y, hy, rfl⟩ := nlL_get args i x hx
    exact (hv i v y hvi hy).nl) hI
theorem hfn_nl {P : Program} {f : FuncId} {args : List V} {objs : List Ob} {fixed : List Nat} {R : V → List Ob → Prop} (h : HFn P f args objs fixed fun r o => R r.nl o) : HFn P f args objs fixed R :=
  fun w I bl vs h1 h2 h3 => (h w I bl vs h1 h2 h3).mono fun _ _ ⟨v, r, o, I', bl', a, b, c, d, e⟩ => ⟨v, r.nl, o, I', bl', a, b, c, d.nl, e⟩
mutual
theorem nl_exR : ∀ x : Ex, (exR x).nl = exR x
  | Ex.mk k t ps => by rw [exR]; simp only [V.nl, nlL, nl_exRL ps]
theorem nl_exRL : ∀ l : List Ex, nlL (exRL l) = exRL l
  | [] => by rw [exRL]; rfl
  | x :: l => by rw [exRL]; simp only [nlL, nl_exR x, nl_exRL l]
end
theorem nl_ex (x : Ex) : (exA x).nl = exA x := by rw [← exR_eq]; exact nl_exR x
theorem nl_exs (l : List Ex) : nlL (l.map exA) = l.map exA := by rw [← exRL_map]; exact nl_exRL l
theorem nl_agg3 (k t : Int) (l : List Ex) : (V.agg [.int .i64 k, .int .i64 t, .lst (l.map exA)]).nl = .agg [.int .i64 k, .int .i64 t, .lst (l.map exA)] := by rw [← exA_mk]; exact nl_ex _
theorem ex_kill (id : Nat) (l : List Ex) : killL id (l.map exA) = l.map exA := kill_nrL _ (nr_exs l)
theorem ex_frz (id : Nat) (els : List V) (l : List Ex) : frzL id els (l.map exA) = l.map exA := frz_nrL _ _ (nr_exs l)
theorem cells_ex (l : List Ex) : ∀ y ∈ l.map exA, y.cells.length = 3 := fun y hy => by
  obtain ⟨q, _, rfl⟩ := List.mem_map.1 hy
  exact exA_cells q

/-! ### takes -/
def obP (s : List UInt8) (b : Bool) : List Ob := [.row 2 [.agg [.str s, .bool b]]]
def takB (s : List UInt8) (c : UInt8) : Bool := decide (s.head? = some c)
def takS (s : List UInt8) (c : UInt8) : List UInt8 := if s.head? = some c then s.tail else s
theorem h_takes (s : List UInt8) (b : Bool) (c : UInt8) : HFn Try.prog 42 [.ptr 0 0 0, .int .u8 c.toNat] (obP s b) [0] (fun r o => r = .bool (takB s c) ∧ o = obP (takS s c) b) := by
  refine hfnE (T := Try.tt) Try.func42 rfl tt_all follows_all ?_ ?_ fun C vs hC hE => ?_
  · kernel_rfl
  · exact Nat.le_of_ble_eq_true (by kernel_rfl)
  cases s with
  | nil =>
    have h0 : ([] : List UInt8) = [] := rfl
    conv => whnf
    repeat' (first | (refine brd_t (by first | assumption | omega) ?_; conv => whnf) | (refine brd_f (by first | assumption | omega) ?_; conv => whnf) | (refine ask (by first | assumption | omega) ?_; conv => whnf) | (refine fit64 (by omega) ?_; conv => whnf) | (refine fit (by simp only [kmin, kmax]; omega) ?_; conv => whnf) | (refine br_t (by assumption) ?_; conv => whnf) | (refine br_f (by assumption) ?_; conv => whnf) | (refine get_of (by assumption) ?_; conv => whnf) | (refine get_map (by assumption) ?_; conv => whnf) | (refine draw_lex hE ?_ ?_; decide +kernel; conv => whnf) | (refine brd (fun h => ?_) (fun h => ?_) <;> conv => whnf) | (refine br (fun h => ?_) (fun h => ?_) <;> conv => whnf) | (refine ret_now hE ?_; conv => whnf) | (intro hlen; conv => whnf) | (refine seg_here ?_; conv => whnf) | (refine both ?_ ?_ <;> conv => whnf))
    refine hret_up (up_here (hret_now hE ?_))
    conv => whnf
    exact ⟨rfl, rfl, rfl, rfl⟩
  | cons d r =>
    have h0 : ¬ (d :: r = []) := by simp
    have h1 : Int.toNat 1 ≤ (d :: r).length := by simp
    by_cases h : d = c
    · have ht : takB (d :: r) c = true := by unfold takB; rw [decide_eq_true_eq, h]; rfl
      have hs : takS (d :: r) c = r := by unfold takS; rw [if_pos (by rw [h]; rfl)]; rfl
      rw [ht, hs]
      subst h
      conv => whnf
      repeat' (first | (refine brd_t (by first | assumption | omega) ?_; conv => whnf) | (refine brd_f (by first | assumption | omega) ?_; conv => whnf) | (refine ask (by first | assumption | omega) ?_; conv => whnf) | (refine fit64 (by omega) ?_; conv => whnf) | (refine fit (by simp only [kmin, kmax]; omega) ?_; conv => whnf) | (refine br_t (by assumption) ?_; conv => whnf) | (refine br_f (by assumption) ?_; conv => whnf) | (refine get_of (by assumption) ?_; conv => whnf) | (refine get_map (by assumption) ?_; conv => whnf) | (refine draw_lex hE ?_ ?_; decide +kernel; conv => whnf) | (refine brd (fun h => ?_) (fun h => ?_) <;> conv => whnf) | (refine br (fun h => ?_) (fun h => ?_) <;> conv => whnf) | (refine ret_now hE ?_; conv => whnf) | (intro hlen; conv => whnf) | (refine seg_here ?_; conv => whnf) | (refine both ?_ ?_ <;> conv => whnf))
      refine hret_up (up_here (hret_now hE ?_))
      conv => whnf
      exact ⟨rfl, rfl, rfl, rfl⟩
    · have ht : takB (d :: r) c = false := by unfold takB; rw [decide_eq_false_iff_not]; simpa using h
      have hs : takS (d :: r) c = d :: r := by unfold takS; rw [if_neg (by simpa using h)]
      have h2 : ¬ ((d.toNat : Int) = c.toNat) := fun e => h (UInt8.toNat_inj.1 (by omega))
      rw [ht, hs]
      conv => whnf
      repeat' (first | (refine brd_t (by first | assumption | omega) ?_; conv => whnf) | (refine brd_f (by first | assumption | omega) ?_; conv => whnf) | (refine ask (by first | assumption | omega) ?_; conv => whnf) | (refine fit64 (by omega) ?_; conv => whnf) | (refine fit (by simp only [kmin, kmax]; omega) ?_; conv => whnf) | (refine br_t (by assumption) ?_; conv => whnf) | (refine br_f (by assumption) ?_; conv => whnf) | (refine get_of (by assumption) ?_; conv => whnf) | (refine get_map (by assumption) ?_; conv => whnf) | (refine draw_lex hE ?_ ?_; decide +kernel; conv => whnf) | (refine brd (fun h => ?_) (fun h => ?_) <;> conv => whnf) | (refine br (fun h => ?_) (fun h => ?_) <;> conv => whnf) | (refine ret_now hE ?_; conv => whnf) | (intro hlen; conv => whnf) | (refine seg_here ?_; conv => whnf) | (refine both ?_ ?_ <;> conv => whnf))
      refine hret_up (up_here (hret_now hE ?_))
      conv => whnf
      exact ⟨rfl, rfl, rfl, rfl⟩
/-! ### together -/
theorem flat_take (k : Int) {l : List Ex} {j : Nat} {x : Ex} (hx : l[j]? = some x) : (l.take (j + 1)).flatMap (spl k) = (l.take j).flatMap (spl k) ++ spl k x := by
  rw [List.take_add_one, hx, List.flatMap_append]
  simp
theorem take_szE (l : List Ex) (j : Nat) : szEL (l.take j) ≤ szEL l := by
  conv => rhs; rw [← List.take_append_drop j l]
  rw [szEL_app]; omega
set_option maxHeartbeats 4000000 in
theorem tog_walk (k : Int) (l : List Ex) (hl : szEL l ≤ 1048576) : Fn1 Try.prog 43 [.int .i64 k, .lst (l.map exA)] (fun r => r = exA (tog k l)) := by
  have hlm : (l.map exA).length = l.length := by simp
  have hll := szEL_len l
  refine fn1_nl ?_
  by_cases h1 : l.length = 1
  · obtain ⟨x, rfl⟩ := List.length_eq_one_iff.1 h1
    obtain ⟨a, t, ps⟩ := x
    refine fn1E (T := Try.tt) Try.func43 rfl tt_all follows_all ?_ ?_ fun C hC hE => ?_
    · kernel_rfl
    · exact Nat.le_of_ble_eq_true (by kernel_rfl)
    conv => whnf
    repeat' (first | (refine brd_t (by first | assumption | omega) ?_; conv => whnf) | (refine brd_f (by first | assumption | omega) ?_; conv => whnf) | (refine ask (by first | assumption | omega) ?_; conv => whnf) | (refine fit64 (by omega) ?_; conv => whnf) | (refine fit (by simp only [kmin, kmax]; omega) ?_; conv => whnf) | (refine br_t (by assumption) ?_; conv => whnf) | (refine br_f (by assumption) ?_; conv => whnf) | (refine get_of (by assumption) ?_; conv => whnf) | (refine get_map (by assumption) ?_; conv => whnf) | (refine draw_lex hE ?_ ?_; decide +kernel; conv => whnf) | (refine brd (fun h => ?_) (fun h => ?_) <;> conv => whnf) | (refine br (fun h => ?_) (fun h => ?_) <;> conv => whnf) | (refine ret_now hE ?_; conv => whnf) | (intro hlen; conv => whnf) | (refine seg_here ?_; conv => whnf) | (refine both ?_ ?_ <;> conv => whnf))
    all_goals exact ⟨rfl, nl_ex (.mk a t ps)⟩
  · have htog : tog k l = norm k (l.flatMap (spl k)) := by
      unfold tog
      split
      · exact absurd rfl h1
      · rfl
    refine fn1E (T := Try.tt) Try.func43 rfl tt_all follows_all ?_ ?_ fun C hC hE => ?_
    · kernel_rfl
    · exact Nat.le_of_ble_eq_true (by kernel_rfl)
    conv => whnf
    repeat' (first | (refine brd_t (by first | assumption | omega) ?_; conv => whnf) | (refine brd_f (by first | assumption | omega) ?_; conv => whnf) | (refine ask (by first | assumption | omega) ?_; conv => whnf) | (refine fit64 (by omega) ?_; conv => whnf) | (refine fit (by simp only [kmin, kmax]; omega) ?_; conv => whnf) | (refine br_t (by assumption) ?_; conv => whnf) | (refine br_f (by assumption) ?_; conv => whnf) | (refine get_of (by assumption) ?_; conv => whnf) | (refine get_map (by assumption) ?_; conv => whnf) | (refine draw_lex hE ?_ ?_; decide +kernel; conv => whnf) | (refine brd (fun h => ?_) (fun h => ?_) <;> conv => whnf) | (refine br (fun h => ?_) (fun h => ?_) <;> conv => whnf) | (refine ret_now hE ?_; conv => whnf) | (intro hlen; conv => whnf) | (refine seg_here ?_; conv => whnf) | (refine both ?_ ?_ <;> conv => whnf))
    refine loopE (fun j : Nat => ⟨48, [(0, .int .i64 k), (4, .ptr 0 0 0), (5, .ptr 1 0 0), (16, .lst (l.map exA)), (17, .int .i64 (l.map exA).length), (18, .int .i64 j)], [some (.row 3 [.agg [.int .i64 0, .int .i64 0, .nils]]), some (.row 3 [.agg [.int .i64 k, .int .i64 0, .sl 2 0 ((l.take j).flatMap (spl k)).length]]), some (.row 3 (((l.take j).flatMap (spl k)).map exA))]⟩)
      (fun j => j ≤ l.length) (fun j => l.length - j) 0 hE ?_ ?_ (Nat.zero_le _) ?_
    · kernel_rfl
    · exact up_ownF 1 2 3 rfl rfl (at_keep [0, 4, 5, 16, 17, 18] rfl)
    intro j hj
    by_cases hlt : j < l.length
    · obtain ⟨a, t, ps, hx, hx'⟩ := ex_at hlt
      have hst := flat_take k hx
      have hcz := flat_sz k (l.take j)
      have htz := take_szE l j
      have hcl := szEL_len ((l.take j).flatMap (spl k))
      have hcz2 := flat_sz k (l.take (j + 1))
      have htz2 := take_szE l (j + 1)
      have hcl2 := szEL_len ((l.take (j + 1)).flatMap (spl k))
      generalize hcur : (l.take j).flatMap (spl k) = cur at *
      rw [hst] at hcz2
      rw [hst, List.length_append] at hcl2
      have hcm : (cur.map exA).length = cur.length := by simp
      have hpm : (ps.map exA).length = ps.length := by simp
      by_cases hk : a = k
      · have hs : spl k (.mk a t ps) = ps := if_pos hk
        rw [hs] at hst hcl2 hcz2
        have hA : List.take cur.length (List.drop 0 (cur.map exA)) ++ ps.map exA = (cur ++ ps).map exA := by
          rw [List.drop_zero, List.take_of_length_le (by omega), List.map_append]
        have hA2 : cur.length + (ps.map exA).length = (cur ++ ps).length := by simp
        conv => whnf
        repeat' (first | (refine brd_t (by first | assumption | omega) ?_; conv => whnf) | (refine brd_f (by first | assumption | omega) ?_; conv => whnf) | (refine ask (by first | assumption | omega) ?_; conv => whnf) | (refine fit64 (by omega) ?_; conv => whnf) | (refine fit (by simp only [kmin, kmax]; omega) ?_; conv => whnf) | (refine br_t (by assumption) ?_; conv => whnf) | (refine br_f (by assumption) ?_; conv => whnf) | (refine get_of (by assumption) ?_; conv => whnf) | (refine get_map (by assumption) ?_; conv => whnf) | (refine ⟨cells_ex ps, ?_⟩; conv => whnf) | (refine ask ⟨?_, ?_, ?_⟩ ?_; omega; omega; omega; conv => whnf) | (refine draw_lex hE ?_ ?_; decide +kernel; conv => whnf) | (refine brd (fun h => ?_) (fun h => ?_) <;> conv => whnf) | (refine br (fun h => ?_) (fun h => ?_) <;> conv => whnf) | (refine ret_now hE ?_; conv => whnf) | (intro hlen; conv => whnf) | (refine seg_here ?_; conv => whnf) | (refine both ?_ ?_ <;> conv => whnf))
        refine next_drop [0, 4, 5, 16, 17, 18] [3] (j + 1) (show j + 1 ≤ l.length by omega) (show l.length - (j + 1) < l.length - j by omega) ?_
        conv => whnf
        rw [hst, hA, ex_kill, ex_kill, hA2]
        rfl
      · have hs : spl k (.mk a t ps) = [.mk a t ps] := if_neg hk
        rw [hs] at hst hcl2 hcz2
        have hA : List.take cur.length (List.drop 0 (cur.map exA)) ++ List.take 1 (List.drop 0 [V.agg [.int .i64 a, .int .i64 t, .lst (ps.map exA)]]) = (cur ++ [Ex.mk a t ps]).map exA := by
          rw [List.drop_zero, List.take_of_length_le (by omega), List.map_append, ← exA_mk]
          rfl
        have hA2 : cur.length + (List.take 1 (List.drop 0 [V.agg [.int .i64 a, .int .i64 t, .lst (ps.map exA)]])).length = (cur ++ [Ex.mk a t ps]).length := by simp
        simp only [List.length_singleton] at hcl2
        conv => whnf
        repeat' (first | (refine brd_t (by first | assumption | omega) ?_; conv => whnf) | (refine brd_f (by first | assumption | omega) ?_; conv => whnf) | (refine ask (by first | assumption | omega) ?_; conv => whnf) | (refine fit64 (by omega) ?_; conv => whnf) | (refine fit (by simp only [kmin, kmax]; omega) ?_; conv => whnf) | (refine br_t (by assumption) ?_; conv => whnf) | (refine br_f (by assumption) ?_; conv => whnf) | (refine get_of (by assumption) ?_; conv => whnf) | (refine get_map (by assumption) ?_; conv => whnf) | (refine ask (Nat.le_refl 1) ?_; conv => whnf) | (refine ask ⟨?_, ?_, ?_⟩ ?_; omega; (show _ + 1 ≤ 9223372036854775807; omega); (show (_ + 1) * _ ≤ 140737488355328; omega); conv => whnf) | (refine draw_lex hE ?_ ?_; decide +kernel; conv => whnf) | (refine brd (fun h => ?_) (fun h => ?_) <;> conv => whnf) | (refine br (fun h => ?_) (fun h => ?_) <;> conv => whnf) | (refine ret_now hE ?_; conv => whnf) | (intro hlen; conv => whnf) | (refine seg_here ?_; conv => whnf) | (refine both ?_ ?_ <;> conv => whnf))
        refine next_drop [0, 4, 5, 16, 17, 18] [3, 4] (j + 1) (show j + 1 ≤ l.length by omega) (show l.length - (j + 1) < l.length - j by omega) ?_
        conv => whnf
        rw [hst, hA, ex_kill, ex_kill, ex_kill, hA2]
        rfl
    · have hjl : j = l.length := by omega
      subst hjl
      rw [htog, List.take_length]
      have hcz := flat_sz k l
      have hcl := szEL_len (l.flatMap (spl k))
      generalize l.flatMap (spl k) = cur at *
      have hcm : (cur.map exA).length = cur.length := by simp
      by_cases hc1 : cur.length = 1
      · obtain ⟨y, rfl⟩ := List.length_eq_one_iff.1 hc1
        obtain ⟨a, t, ps⟩ := y
        rw [norm_one]
        conv => whnf
        repeat' (first | (refine brd_t (by first | assumption | omega) ?_; conv => whnf) | (refine brd_f (by first | assumption | omega) ?_; conv => whnf) | (refine ask (by first | assumption | omega) ?_; conv => whnf) | (refine fit64 (by omega) ?_; conv => whnf) | (refine fit (by simp only [kmin, kmax]; omega) ?_; conv => whnf) | (refine br_t (by assumption) ?_; conv => whnf) | (refine br_f (by assumption) ?_; conv => whnf) | (refine get_of (by assumption) ?_; conv => whnf) | (refine get_map (by assumption) ?_; conv => whnf) | (refine draw_lex hE ?_ ?_; decide +kernel; conv => whnf) | (refine brd (fun h => ?_) (fun h => ?_) <;> conv => whnf) | (refine br (fun h => ?_) (fun h => ?_) <;> conv => whnf) | (refine ret_now hE ?_; conv => whnf) | (intro hlen; conv => whnf) | (refine seg_here ?_; conv => whnf) | (refine both ?_ ?_ <;> conv => whnf))
        exact ⟨rfl, nl_ex (.mk a t ps)⟩
      · rw [norm_many hc1]
        have hfz : frzL 2 (cur.map exA) [V.agg [.int .i64 k, .int .i64 0, .sl 2 0 cur.length]] = [.agg [.int .i64 k, .int .i64 0, .lst (cur.map exA)]] := by
          simp only [frzL, V.frz, if_true]
          rw [if_pos (by omega), List.drop_zero, List.take_of_length_le (by omega)]
        conv => whnf
        repeat' (first | (refine brd_t (by first | assumption | omega) ?_; conv => whnf) | (refine brd_f (by first | assumption | omega) ?_; conv => whnf) | (refine ask (by first | assumption | omega) ?_; conv => whnf) | (refine fit64 (by omega) ?_; conv => whnf) | (refine fit (by simp only [kmin, kmax]; omega) ?_; conv => whnf) | (refine br_t (by assumption) ?_; conv => whnf) | (refine br_f (by assumption) ?_; conv => whnf) | (refine get_of (by assumption) ?_; conv => whnf) | (refine get_map (by assumption) ?_; conv => whnf) | (refine ret_up (up_freeze 2 (z := 3) (els := cur.map exA) rfl (nr_exs cur) (up_same [some (.row 3 [.agg [.int .i64 k, .int .i64 0, .lst (cur.map exA)]]), some (.row 3 [.agg [.int .i64 k, .int .i64 0, .lst (cur.map exA)]]), none] ?_ (up_here ?_))); (conv => whnf); simp only [List.set_cons_zero, hfz]) | (refine draw_lex hE ?_ ?_; decide +kernel; conv => whnf) | (refine brd (fun h => ?_) (fun h => ?_) <;> conv => whnf) | (refine br (fun h => ?_) (fun h => ?_) <;> conv => whnf) | (refine ret_now hE ?_; conv => whnf) | (intro hlen; conv => whnf) | (refine seg_here ?_; conv => whnf) | (refine both ?_ ?_ <;> conv => whnf))
        exact ⟨rfl, (nl_agg3 k 0 cur).trans (exA_mk k 0 cur).symm⟩
end Go.Proofs.Yteappcclfjafeaa
