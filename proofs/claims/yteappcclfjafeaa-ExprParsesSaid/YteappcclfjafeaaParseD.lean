/- expr.Parse and the document's joined, flush, exprRead, ExprParse, walked. No conditions. -/
import Derived.Test.YteappcclfjafeaaParseC
set_option linter.unusedSimpArgs false
set_option linter.unusedVariables false
set_option maxRecDepth 100000
namespace Go.Proofs.Yteappcclfjafeaa
open Go.RowKit

def parseV (p : Ex × Int) : V := .tup [exA p.1, .int .i64 p.2]
theorem nl_parse (x : Ex) (e : Int) : (V.tup [exA x, .int .i64 e]).nl = .tup [exA x, .int .i64 e] := by simp only [V.nl, nlL, nl_ex]
theorem palt_fin (s : List UInt8) (h : s.length ≤ 40) : szE (pAlt 41 s).1 ≤ 1048576 := by
  have := (palt_sz 41 s (by omega)).1
  omega
set_option maxHeartbeats 4000000 in
theorem expr_parse (s : List UInt8) : Fn1 Try.prog 9 [.str s] (fun r => r = parseV (parseP s)) := by
  unfold parseP
  refine fn1_nl ?_
  by_cases hl : 40 < s.length
  · rw [if_pos hl]
    refine fn1E (T := Try.tt) Try.func9 rfl tt_all follows_all ?_ ?_ fun C hC hE => ?_
    · kernel_rfl
    · exact Nat.le_of_ble_eq_true (by kernel_rfl)
    conv => whnf
    repeat' (first | (refine brd_t (by first | assumption | omega) ?_; conv => whnf) | (refine brd_f (by first | assumption | omega) ?_; conv => whnf) | (refine ask (by first | assumption | omega) ?_; conv => whnf) | (refine fit64 (by omega) ?_; conv => whnf) | (refine fit (by simp only [kmin, kmax]; omega) ?_; conv => whnf) | (refine br_t (by assumption) ?_; conv => whnf) | (refine br_f (by assumption) ?_; conv => whnf) | (refine get_of (by assumption) ?_; conv => whnf) | (refine get_map (by assumption) ?_; conv => whnf) | (refine draw_lex hE ?_ ?_; decide +kernel; conv => whnf) | (refine brd (fun h => ?_) (fun h => ?_) <;> conv => whnf) | (refine br (fun h => ?_) (fun h => ?_) <;> conv => whnf) | (refine ret_now hE ?_; conv => whnf) | (intro hlen; conv => whnf) | (refine seg_here ?_; conv => whnf) | (refine both ?_ ?_ <;> conv => whnf))
    exact ⟨rfl, nl_parse (.mk 0 0 []) 1⟩
  · rw [if_neg hl]
    have hal := alt_walk 41 s (by omega) (by omega)
    have hsz := palt_fin s (by omega)
    have hck := expr_check (pAlt 41 s).1 hsz
    unfold AltH at hal
    generalize pAlt 41 s = p at *
    obtain ⟨x, t, b⟩ := p
    simp only at hal hck ⊢
    cases b with
    | true =>
      rw [if_pos (.inl rfl)]
      refine fn1E (T := Try.tt) Try.func9 rfl tt_all follows_all ?_ ?_ fun C hC hE => ?_
      · kernel_rfl
      · exact Nat.le_of_ble_eq_true (by kernel_rfl)
      conv => whnf
      repeat' (first | (refine brd_t (by first | assumption | omega) ?_; conv => whnf) | (refine brd_f (by first | assumption | omega) ?_; conv => whnf) | (refine ask (by first | assumption | omega) ?_; conv => whnf) | (refine fit64 (by omega) ?_; conv => whnf) | (refine fit (by simp only [kmin, kmax]; omega) ?_; conv => whnf) | (refine br_t (by assumption) ?_; conv => whnf) | (refine br_f (by assumption) ?_; conv => whnf) | (refine get_of (by assumption) ?_; conv => whnf) | (refine get_map (by assumption) ?_; conv => whnf) | (refine call_mth hal hC hasBody_26 1 rfl trivial (exA_nr _) rfl ⟨⟨trivial, trivial, trivial⟩, trivial⟩ ⟨⟨trivial, trivial, trivial⟩, trivial⟩ ?_; conv => whnf) | (refine draw_lex hE ?_ ?_; decide +kernel; conv => whnf) | (refine brd (fun h => ?_) (fun h => ?_) <;> conv => whnf) | (refine br (fun h => ?_) (fun h => ?_) <;> conv => whnf) | (refine ret_now hE ?_; conv => whnf) | (intro hlen; conv => whnf) | (refine seg_here ?_; conv => whnf) | (refine both ?_ ?_ <;> conv => whnf))
      all_goals exact ⟨rfl, nl_parse (.mk 0 0 []) 4⟩
    | false =>
      by_cases ht : t = []
      · rw [if_neg (by simp [ht])]
        by_cases hc : exC x = 0
        · rw [if_neg (by simp [hc])]
          rw [hc] at hck
          subst ht
          have h0 : ([] : List UInt8) = [] := rfl
          refine fn1E (T := Try.tt) Try.func9 rfl tt_all follows_all ?_ ?_ fun C hC hE => ?_
          · kernel_rfl
          · exact Nat.le_of_ble_eq_true (by kernel_rfl)
          conv => whnf
          repeat' (first | (refine brd_t (by first | assumption | omega) ?_; conv => whnf) | (refine brd_f (by first | assumption | omega) ?_; conv => whnf) | (refine ask (by first | assumption | omega) ?_; conv => whnf) | (refine fit64 (by omega) ?_; conv => whnf) | (refine fit (by simp only [kmin, kmax]; omega) ?_; conv => whnf) | (refine br_t (by assumption) ?_; conv => whnf) | (refine br_f (by assumption) ?_; conv => whnf) | (refine get_of (by assumption) ?_; conv => whnf) | (refine get_map (by assumption) ?_; conv => whnf) | (refine call_mth hal hC hasBody_26 1 rfl trivial (exA_nr _) rfl ⟨⟨trivial, trivial, trivial⟩, trivial⟩ ⟨⟨trivial, trivial, trivial⟩, trivial⟩ ?_; conv => whnf) | (refine call_eq (hck) hC hasBody_27 ?_ ?_ ?_; kernel_rfl; kernel_rfl; conv => whnf) | (refine callq_eq (hck) hC hasBody_27 ?_ ?_ ?_; kernel_rfl; kernel_rfl; conv => whnf) | (refine draw_lex hE ?_ ?_; decide +kernel; conv => whnf) | (refine brd (fun h => ?_) (fun h => ?_) <;> conv => whnf) | (refine br (fun h => ?_) (fun h => ?_) <;> conv => whnf) | (refine ret_now hE ?_; conv => whnf) | (intro hlen; conv => whnf) | (refine seg_here ?_; conv => whnf) | (refine both ?_ ?_ <;> conv => whnf))
          all_goals exact ⟨rfl, nl_parse x 0⟩
        · rw [if_pos (by simp [hc])]
          subst ht
          have h0 : ([] : List UInt8) = [] := rfl
          refine fn1E (T := Try.tt) Try.func9 rfl tt_all follows_all ?_ ?_ fun C hC hE => ?_
          · kernel_rfl
          · exact Nat.le_of_ble_eq_true (by kernel_rfl)
          conv => whnf
          repeat' (first | (refine brd_t (by first | assumption | omega) ?_; conv => whnf) | (refine brd_f (by first | assumption | omega) ?_; conv => whnf) | (refine ask (by first | assumption | omega) ?_; conv => whnf) | (refine fit64 (by omega) ?_; conv => whnf) | (refine fit (by simp only [kmin, kmax]; omega) ?_; conv => whnf) | (refine br_t (by assumption) ?_; conv => whnf) | (refine br_f (by assumption) ?_; conv => whnf) | (refine get_of (by assumption) ?_; conv => whnf) | (refine get_map (by assumption) ?_; conv => whnf) | (refine call_mth hal hC hasBody_26 1 rfl trivial (exA_nr _) rfl ⟨⟨trivial, trivial, trivial⟩, trivial⟩ ⟨⟨trivial, trivial, trivial⟩, trivial⟩ ?_; conv => whnf) | (refine call_eq (hck) hC hasBody_27 ?_ ?_ ?_; kernel_rfl; kernel_rfl; conv => whnf) | (refine callq_eq (hck) hC hasBody_27 ?_ ?_ ?_; kernel_rfl; kernel_rfl; conv => whnf) | (refine draw_lex hE ?_ ?_; decide +kernel; conv => whnf) | (refine brd (fun h => ?_) (fun h => ?_) <;> conv => whnf) | (refine br (fun h => ?_) (fun h => ?_) <;> conv => whnf) | (refine ret_now hE ?_; conv => whnf) | (intro hlen; conv => whnf) | (refine seg_here ?_; conv => whnf) | (refine both ?_ ?_ <;> conv => whnf))
          all_goals exact ⟨rfl, nl_parse (.mk 0 0 []) 4⟩
      · rw [if_pos (.inr ht)]
        refine fn1E (T := Try.tt) Try.func9 rfl tt_all follows_all ?_ ?_ fun C hC hE => ?_
        · kernel_rfl
        · exact Nat.le_of_ble_eq_true (by kernel_rfl)
        conv => whnf
        repeat' (first | (refine brd_t (by first | assumption | omega) ?_; conv => whnf) | (refine brd_f (by first | assumption | omega) ?_; conv => whnf) | (refine ask (by first | assumption | omega) ?_; conv => whnf) | (refine fit64 (by omega) ?_; conv => whnf) | (refine fit (by simp only [kmin, kmax]; omega) ?_; conv => whnf) | (refine br_t (by assumption) ?_; conv => whnf) | (refine br_f (by assumption) ?_; conv => whnf) | (refine get_of (by assumption) ?_; conv => whnf) | (refine get_map (by assumption) ?_; conv => whnf) | (refine call_mth hal hC hasBody_26 1 rfl trivial (exA_nr _) rfl ⟨⟨trivial, trivial, trivial⟩, trivial⟩ ⟨⟨trivial, trivial, trivial⟩, trivial⟩ ?_; conv => whnf) | (refine call_eq (hck) hC hasBody_27 ?_ ?_ ?_; kernel_rfl; kernel_rfl; conv => whnf) | (refine callq_eq (hck) hC hasBody_27 ?_ ?_ ?_; kernel_rfl; kernel_rfl; conv => whnf) | (refine draw_lex hE ?_ ?_; decide +kernel; conv => whnf) | (refine brd (fun h => ?_) (fun h => ?_) <;> conv => whnf) | (refine br (fun h => ?_) (fun h => ?_) <;> conv => whnf) | (refine ret_now hE ?_; conv => whnf) | (intro hlen; conv => whnf) | (refine seg_here ?_; conv => whnf) | (refine both ?_ ?_ <;> conv => whnf))
        all_goals exact ⟨rfl, nl_parse (.mk 0 0 []) 4⟩

/-! ### The document's joined -/
/-- Ahead of a region that draws its order: steps of the proof alone. -/
theorem draw_up {T : TT} {C : Ctx} {ops : Array Oper} {K : ES → Prop} {σ : ES} (h : UpE C (fun σ' => DrawN T C ops K σ') σ) : DrawN T C ops K σ :=
  ⟨fun id => awp_up (up_mono h.out (fun _ ⟨_, e, hd⟩ => e ▸ hd.out id))⟩
theorem joined1 (k : Int) (x : Ex) : Fn1 Try.prog 62 [.agg (exG x), .rp [.int .i64 k]] (fun r => r = .lst ((spl k x).map exA)) := by
  obtain ⟨a, t, ps⟩ := x
  rw [exG_mk]
  simp only [Ex.kind, Ex.type, Ex.parts]
  by_cases h : a = k
  · have hs : spl k (.mk a t ps) = ps := if_pos h
    rw [hs]
    refine fn1E (T := Try.tt) Try.func62 rfl tt_all follows_all ?_ ?_ fun C hC hE => ?_
    · kernel_rfl
    · exact Nat.le_of_ble_eq_true (by kernel_rfl)
    conv => whnf
    repeat' (first | (refine brd_t (by first | assumption | omega) ?_; conv => whnf) | (refine brd_f (by first | assumption | omega) ?_; conv => whnf) | (refine ask (by first | assumption | omega) ?_; conv => whnf) | (refine fit64 (by omega) ?_; conv => whnf) | (refine fit (by simp only [kmin, kmax]; omega) ?_; conv => whnf) | (refine br_t (by assumption) ?_; conv => whnf) | (refine br_f (by assumption) ?_; conv => whnf) | (refine get_of (by assumption) ?_; conv => whnf) | (refine get_map (by assumption) ?_; conv => whnf) | (refine draw_lex hE ?_ ?_; decide +kernel; conv => whnf) | (refine brd (fun h => ?_) (fun h => ?_) <;> conv => whnf) | (refine br (fun h => ?_) (fun h => ?_) <;> conv => whnf) | (refine ret_now hE ?_; conv => whnf) | (intro hlen; conv => whnf) | (refine seg_here ?_; conv => whnf) | (refine both ?_ ?_ <;> conv => whnf))
    all_goals exact ⟨rfl, rfl⟩
  · have hs : spl k (.mk a t ps) = [.mk a t ps] := if_neg h
    rw [hs]
    refine fn1E (T := Try.tt) Try.func62 rfl tt_all follows_all ?_ ?_ fun C hC hE => ?_
    · kernel_rfl
    · exact Nat.le_of_ble_eq_true (by kernel_rfl)
    conv => whnf
    repeat' (first | (refine brd_t (by first | assumption | omega) ?_; conv => whnf) | (refine brd_f (by first | assumption | omega) ?_; conv => whnf) | (refine ask (by first | assumption | omega) ?_; conv => whnf) | (refine fit64 (by omega) ?_; conv => whnf) | (refine fit (by simp only [kmin, kmax]; omega) ?_; conv => whnf) | (refine br_t (by assumption) ?_; conv => whnf) | (refine br_f (by assumption) ?_; conv => whnf) | (refine get_of (by assumption) ?_; conv => whnf) | (refine get_map (by assumption) ?_; conv => whnf) | (refine ret_up (up_frzK 1 3 [] rfl ⟨⟨trivial, trivial, trivial, trivial⟩, trivial⟩ rfl rfl rfl (up_here ?_))) | (refine draw_lex hE ?_ ?_; decide +kernel; conv => whnf) | (refine brd (fun h => ?_) (fun h => ?_) <;> conv => whnf) | (refine br (fun h => ?_) (fun h => ?_) <;> conv => whnf) | (refine ret_now hE ?_; conv => whnf) | (intro hlen; conv => whnf) | (refine seg_here ?_; conv => whnf) | (refine both ?_ ?_ <;> conv => whnf))
    all_goals exact ⟨rfl, by rw [List.map_cons, List.map_nil, exA_mk]⟩
set_option maxHeartbeats 4000000 in
theorem joined_walk (k : Int) (x y : Ex) (hx : szE x ≤ 1048576) (hy : szE y ≤ 1048576) : Fn1 Try.prog 47 [.int .i64 k, .agg (exG x), .agg (exG y)] (fun r => r = exA (jnd k x y)) := by
  have h1 := joined1 k x
  have h2 := joined1 k y
  have z1 := spl_sz k x
  have z2 := spl_sz k y
  have l1 := szEL_len (spl k x)
  have l2 := szEL_len (spl k y)
  have hj : jnd k x y = norm k (spl k x ++ spl k y) := rfl
  rw [hj]
  generalize spl k x = a at *
  generalize spl k y = b at *
  have ha := exL_len a
  have hb := exL_len b
  have hK : killL 4 (List.take (a.map exA).length (List.drop 0 (a.map exA)) ++ b.map exA) = (a ++ b).map exA := by
    rw [List.drop_zero, List.take_length, ← List.map_append, ex_kill]
  have hKl : (a.map exA).length + (b.map exA).length = ((a ++ b).map exA).length := by simp
  have hKl2 : ((a ++ b).map exA).length = (a ++ b).length := exL_len _
  refine fn1_nl ?_
  by_cases hc : (a ++ b).length = 1
  · obtain ⟨y, hy⟩ := List.length_eq_one_iff.1 hc
    have hg : (killL 4 (List.take (a.map exA).length (List.drop 0 (a.map exA)) ++ b.map exA))[0 + Int.toNat 0]? = some (.agg (exG y)) := by rw [hK, hy]; rfl
    rw [hy, norm_one]
    refine fn1E (T := Try.tt) Try.func47 rfl tt_all follows_all ?_ ?_ fun C hC hE => ?_
    · kernel_rfl
    · exact Nat.le_of_ble_eq_true (by kernel_rfl)
    conv => whnf
    repeat' (first | (refine brd_t (by first | assumption | omega) ?_; conv => whnf) | (refine brd_f (by first | assumption | omega) ?_; conv => whnf) | (refine ask (by first | assumption | omega) ?_; conv => whnf) | (refine fit64 (by omega) ?_; conv => whnf) | (refine fit (by simp only [kmin, kmax]; omega) ?_; conv => whnf) | (refine br_t (by assumption) ?_; conv => whnf) | (refine br_f (by assumption) ?_; conv => whnf) | (refine get_of (by assumption) ?_; conv => whnf) | (refine get_map (by assumption) ?_; conv => whnf) | (refine draw_up (up_freeze 0 (z := 1) (els := [.int .i64 k]) rfl ⟨trivial, trivial⟩ (up_here ?_)); conv => whnf) | (refine call_eq (h1) hC hasBody_62 ?_ ?_ ?_; kernel_rfl; kernel_rfl; conv => whnf) | (refine callq_eq (h1) hC hasBody_62 ?_ ?_ ?_; kernel_rfl; kernel_rfl; conv => whnf) | (refine call_eq (h2) hC hasBody_62 ?_ ?_ ?_; kernel_rfl; kernel_rfl; conv => whnf) | (refine callq_eq (h2) hC hasBody_62 ?_ ?_ ?_; kernel_rfl; kernel_rfl; conv => whnf) | (refine ⟨cells_ex a, ?_⟩; conv => whnf) | (refine ⟨cells_ex b, ?_⟩; conv => whnf) | (refine get_of hg ?_; conv => whnf) | (refine draw_lex hE ?_ ?_; decide +kernel; conv => whnf) | (refine draw_any hE [⟨1, [(0, none), (1, none), (2, none), (4, none), (5, none), (3, some 0), (6, none)], some 7, [], [[]]⟩, ⟨0, [(8, none)], none, [], [[]]⟩] ?_ ?_; decide +kernel; conv => whnf) | (refine brd (fun h => ?_) (fun h => ?_) <;> conv => whnf) | (refine br (fun h => ?_) (fun h => ?_) <;> conv => whnf) | (refine ret_now hE ?_; conv => whnf) | (intro hlen; conv => whnf) | (refine seg_here ?_; conv => whnf) | (refine both ?_ ?_ <;> conv => whnf))
    all_goals exact ⟨rfl, nl_ex y⟩
  · rw [norm_many hc]
    have hfz : killL 2 (killL 1 (frzL 4 ((a ++ b).map exA) [V.agg [.int .i64 k, .int .i64 0, .sl 4 0 ((a.map exA).length + (b.map exA).length)]])) = [.agg [.int .i64 k, .int .i64 0, .lst ((a ++ b).map exA)]] := by
      simp only [frzL, V.frz, if_true]
      rw [if_pos (by omega), List.drop_zero, List.take_of_length_le (by omega)]
      rfl
    refine fn1E (T := Try.tt) Try.func47 rfl tt_all follows_all ?_ ?_ fun C hC hE => ?_
    · kernel_rfl
    · exact Nat.le_of_ble_eq_true (by kernel_rfl)
    conv => whnf
    repeat' (first | (refine brd_t (by first | assumption | omega) ?_; conv => whnf) | (refine brd_f (by first | assumption | omega) ?_; conv => whnf) | (refine ask (by first | assumption | omega) ?_; conv => whnf) | (refine fit64 (by omega) ?_; conv => whnf) | (refine fit (by simp only [kmin, kmax]; omega) ?_; conv => whnf) | (refine br_t (by assumption) ?_; conv => whnf) | (refine br_f (by assumption) ?_; conv => whnf) | (refine get_of (by assumption) ?_; conv => whnf) | (refine get_map (by assumption) ?_; conv => whnf) | (refine draw_up (up_freeze 0 (z := 1) (els := [.int .i64 k]) rfl ⟨trivial, trivial⟩ (up_here ?_)); conv => whnf) | (refine call_eq (h1) hC hasBody_62 ?_ ?_ ?_; kernel_rfl; kernel_rfl; conv => whnf) | (refine callq_eq (h1) hC hasBody_62 ?_ ?_ ?_; kernel_rfl; kernel_rfl; conv => whnf) | (refine call_eq (h2) hC hasBody_62 ?_ ?_ ?_; kernel_rfl; kernel_rfl; conv => whnf) | (refine callq_eq (h2) hC hasBody_62 ?_ ?_ ?_; kernel_rfl; kernel_rfl; conv => whnf) | (refine ⟨cells_ex a, ?_⟩; conv => whnf) | (refine ⟨cells_ex b, ?_⟩; conv => whnf) | (refine ret_up (up_freeze 4 (z := 3) (els := (a ++ b).map exA) ?_ (nr_exs _) (up_drops [1, 2] (up_same [none, none, none, some (.row 3 [.agg [.int .i64 k, .int .i64 0, .lst ((a ++ b).map exA)]]), none] ?_ (up_here ?_)))); exact congrArg (fun x => some (some (Ob.row 3 x))) hK; (conv => whnf); exact congrArg (fun z => [none, none, none, some (Ob.row 3 z), none]) hfz) | (refine draw_lex hE ?_ ?_; decide +kernel; conv => whnf) | (refine draw_any hE [⟨1, [(0, none), (1, none), (2, none), (4, none), (5, none), (3, some 0), (6, none)], some 7, [], [[]]⟩, ⟨0, [(8, none)], none, [], [[]]⟩] ?_ ?_; decide +kernel; conv => whnf) | (refine brd (fun h => ?_) (fun h => ?_) <;> conv => whnf) | (refine br (fun h => ?_) (fun h => ?_) <;> conv => whnf) | (refine ret_now hE ?_; conv => whnf) | (intro hlen; conv => whnf) | (refine seg_here ?_; conv => whnf) | (refine both ?_ ?_ <;> conv => whnf))
    exact ⟨rfl, (nl_agg3 k 0 _).trans (exA_mk k 0 _).symm⟩
end Go.Proofs.Yteappcclfjafeaa
