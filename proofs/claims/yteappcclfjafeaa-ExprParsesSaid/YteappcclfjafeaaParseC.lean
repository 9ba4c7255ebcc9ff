/- The parser's seq and alt, walked. No conditions. -/
import Derived.Test.YteappcclfjafeaaParseB
set_option linter.unusedSimpArgs false
set_option linter.unusedVariables false
set_option maxRecDepth 100000
namespace Go.Proofs.Yteappcclfjafeaa
open Go.RowKit

/-! ### seq -/
def seqA (f : List UInt8 → PR) (s : List UInt8) (b : Bool) : PR := if b = true then (tog 2 [], s, true) else pSeq f s
theorem seqF_nil (f : List UInt8 → PR) (n : Nat) (l : List Ex) : seqF f n [] l = (l, [], false) := by cases n <;> rfl
theorem ex_app (l : List Ex) (x : Ex) : List.take l.length (List.drop 0 (l.map exA)) ++ List.take 1 (List.drop 0 [V.agg [.int .i64 x.kind, .int .i64 x.type, .lst (exRL x.parts)]]) = (l ++ [x]).map exA := by
  rw [List.drop_zero, List.take_of_length_le (by simp), List.map_append]
  rfl
theorem ex_app_len (l : List Ex) (x : Ex) : l.length + (List.take 1 (List.drop 0 [V.agg [.int .i64 x.kind, .int .i64 x.type, .lst (exRL x.parts)]])).length = (l ++ [x]).length := by simp
theorem exL_len (l : List Ex) : (l.map exA).length = l.length := by simp
set_option maxHeartbeats 8000000 in
theorem h_seq (f : List UInt8 → PR) (s0 : List UInt8) (b0 : Bool) (hlen : s0.length ≤ 40) (hf : ∀ r : List UInt8, r.length < s0.length → AltH f r) (hz : ∀ r : List UInt8, r.length < s0.length → FSz f r) :
    HFn Try.prog 41 [.ptr 0 0 0] (obP s0 b0) [0] (fun v o => v = exA (seqA f s0 b0).1 ∧ o = obP (seqA f s0 b0).2.1 (seqA f s0 b0).2.2) := by
  obtain ⟨l1, s1, b1, hseq⟩ : ∃ l s b, (if b0 = true then ([], s0, true) else seqF f s0.length s0 []) = (l, s, b) := ⟨_, _, _, rfl⟩
  have hA : seqA f s0 b0 = (tog 2 l1, s1, b1) := by
    unfold seqA pSeq
    cases b0
    · simp only [Bool.false_eq_true, if_false] at hseq ⊢; rw [hseq]
    · simp only [if_true] at hseq ⊢; cases hseq; rfl
  rw [hA]
  have h320 : szEL [] + 8 * s0.length ≤ 320 := by simp [szEL_sum]; omega
  refine hfn_nl ?_
  refine hfnE (T := Try.tt) Try.func41 rfl tt_all follows_all ?_ ?_ fun C vs hC hE => ?_
  · kernel_rfl
  · exact Nat.le_of_ble_eq_true (by kernel_rfl)
  conv => whnf
  repeat' (first | (refine brd_t (by first | assumption | omega) ?_; conv => whnf) | (refine brd_f (by first | assumption | omega) ?_; conv => whnf) | (refine ask (by first | assumption | omega) ?_; conv => whnf) | (refine fit64 (by omega) ?_; conv => whnf) | (refine fit (by simp only [kmin, kmax]; omega) ?_; conv => whnf) | (refine br_t (by assumption) ?_; conv => whnf) | (refine br_f (by assumption) ?_; conv => whnf) | (refine get_of (by assumption) ?_; conv => whnf) | (refine get_map (by assumption) ?_; conv => whnf) | (refine draw_lex hE ?_ ?_; decide +kernel; conv => whnf) | (refine brd (fun h => ?_) (fun h => ?_) <;> conv => whnf) | (refine br (fun h => ?_) (fun h => ?_) <;> conv => whnf) | (refine ret_now hE ?_; conv => whnf) | (intro hlen; conv => whnf) | (refine seg_here ?_; conv => whnf) | (refine both ?_ ?_ <;> conv => whnf))
  refine loopE (fun ((n, l, s, b) : Nat × List Ex × List UInt8 × Bool) => ⟨39, [(0, .ptr 0 0 0), (2, .ptr 2 0 0), (3, .sl 3 0 l.length)], [some (.row 2 [.agg [.str s, .bool b]]), some (.hid vs [.ptr 0 0 0]), some (.row 3 [.agg [.int .i64 0, .int .i64 0, .nils]]), some (.row 3 (l.map exA))]⟩)
    (fun (n, l, s, b) => s.length ≤ n ∧ s.length ≤ s0.length ∧ szEL l + 8 * s.length ≤ 320 ∧ (if b = true then (l, s, true) else seqF f n s l) = (l1, s1, b1)) (fun (n, _) => n) (s0.length, [], s0, b0) hE ?_ ?_ ⟨Nat.le_refl _, Nat.le_refl _, h320, hseq⟩ ?_
  · kernel_rfl
  · exact up_own 3 3 rfl rfl (at_keep [0, 2, 3] rfl)
  rintro ⟨n, l, s, b⟩ ⟨hn, hs0, hsz, hI⟩
  have hn : s.length ≤ n := hn
  have hs0 : s.length ≤ s0.length := hs0
  have hsz : szEL l + 8 * s.length ≤ 320 := hsz
  have hI : (if b = true then (l, s, true) else seqF f n s l) = (l1, s1, b1) := hI
  have hll := szEL_len l
  have hlm := exL_len l
  have htw := tog_walk 2 l (by omega)
  cases b with
  | true =>
    rw [if_pos rfl] at hI
    cases hI
    conv => whnf
    repeat' (first | (refine brd_t (by first | assumption | omega) ?_; conv => whnf) | (refine brd_f (by first | assumption | omega) ?_; conv => whnf) | (refine ask (by first | assumption | omega) ?_; conv => whnf) | (refine fit64 (by omega) ?_; conv => whnf) | (refine fit (by simp only [kmin, kmax]; omega) ?_; conv => whnf) | (refine br_t (by assumption) ?_; conv => whnf) | (refine br_f (by assumption) ?_; conv => whnf) | (refine get_of (by assumption) ?_; conv => whnf) | (refine get_map (by assumption) ?_; conv => whnf) | (refine call_up (up_frzK 3 37 [0, 2] (z := 3) rfl (nr_exs _) rfl (exL_len _).symm rfl (up_here ?_)); conv => whnf) | (refine call_eq (htw) hC hasBody_43 ?_ ?_ ?_; kernel_rfl; kernel_rfl; conv => whnf) | (refine callq_eq (htw) hC hasBody_43 ?_ ?_ ?_; kernel_rfl; kernel_rfl; conv => whnf) | (refine draw_lex hE ?_ ?_; decide +kernel; conv => whnf) | (refine brd (fun h => ?_) (fun h => ?_) <;> conv => whnf) | (refine br (fun h => ?_) (fun h => ?_) <;> conv => whnf) | (refine ret_now hE ?_; conv => whnf) | (intro hlen; conv => whnf) | (refine seg_here ?_; conv => whnf) | (refine both ?_ ?_ <;> conv => whnf))
    refine hret_low hE ?_
    conv => whnf
    exact ⟨rfl, rfl, rfl, rfl, nl_ex _, rfl⟩
  | false =>
    simp only [Bool.false_eq_true, if_false] at hI
    cases s with
    | nil =>
      rw [seqF_nil] at hI
      cases hI
      conv => whnf
      repeat' (first | (refine brd_t (by first | assumption | omega) ?_; conv => whnf) | (refine brd_f (by first | assumption | omega) ?_; conv => whnf) | (refine ask (by first | assumption | omega) ?_; conv => whnf) | (refine fit64 (by omega) ?_; conv => whnf) | (refine fit (by simp only [kmin, kmax]; omega) ?_; conv => whnf) | (refine br_t (by assumption) ?_; conv => whnf) | (refine br_f (by assumption) ?_; conv => whnf) | (refine get_of (by assumption) ?_; conv => whnf) | (refine get_map (by assumption) ?_; conv => whnf) | (refine brd_t rfl ?_; conv => whnf) | (refine call_up (up_frzK 3 37 [0, 2] (z := 3) rfl (nr_exs _) rfl (exL_len _).symm rfl (up_here ?_)); conv => whnf) | (refine call_eq (htw) hC hasBody_43 ?_ ?_ ?_; kernel_rfl; kernel_rfl; conv => whnf) | (refine callq_eq (htw) hC hasBody_43 ?_ ?_ ?_; kernel_rfl; kernel_rfl; conv => whnf) | (refine draw_lex hE ?_ ?_; decide +kernel; conv => whnf) | (refine brd (fun h => ?_) (fun h => ?_) <;> conv => whnf) | (refine br (fun h => ?_) (fun h => ?_) <;> conv => whnf) | (refine ret_now hE ?_; conv => whnf) | (intro hlen; conv => whnf) | (refine seg_here ?_; conv => whnf) | (refine both ?_ ?_ <;> conv => whnf))
      refine hret_low hE ?_
      conv => whnf
      exact ⟨rfl, rfl, rfl, rfl, nl_ex _, rfl⟩
    | cons c r =>
      have hne : ¬ (c :: r = []) := by simp
      have hi0 : Int.toNat 0 < (c :: r).length := by simp
      cases n with
      | zero => exact absurd hn (by simp)
      | succ n =>
      by_cases hst : c = 124 ∨ c = 41
      · rw [seqF, if_pos hst] at hI
        cases hI
        have hst2 : c.toNat = 124 ∨ c.toNat = 41 := by rcases hst with h | h <;> rw [h] <;> decide
        rcases hst2 with hst2 | hst2
        all_goals
          conv => whnf
          repeat' (first | (refine brd_t (by first | assumption | omega) ?_; conv => whnf) | (refine brd_f (by first | assumption | omega) ?_; conv => whnf) | (refine ask (by first | assumption | omega) ?_; conv => whnf) | (refine fit64 (by omega) ?_; conv => whnf) | (refine fit (by simp only [kmin, kmax]; omega) ?_; conv => whnf) | (refine br_t (by assumption) ?_; conv => whnf) | (refine br_f (by assumption) ?_; conv => whnf) | (refine get_of (by assumption) ?_; conv => whnf) | (refine get_map (by assumption) ?_; conv => whnf) | (refine call_up (up_frzK 3 37 [0, 2] (z := 3) rfl (nr_exs _) rfl (exL_len _).symm rfl (up_here ?_)); conv => whnf) | (refine call_eq (htw) hC hasBody_43 ?_ ?_ ?_; kernel_rfl; kernel_rfl; conv => whnf) | (refine callq_eq (htw) hC hasBody_43 ?_ ?_ ?_; kernel_rfl; kernel_rfl; conv => whnf) | (refine draw_lex hE ?_ ?_; decide +kernel; conv => whnf) | (refine brd (fun h => ?_) (fun h => ?_) <;> conv => whnf) | (refine br (fun h => ?_) (fun h => ?_) <;> conv => whnf) | (refine ret_now hE ?_; conv => whnf) | (intro hlen; conv => whnf) | (refine seg_here ?_; conv => whnf) | (refine both ?_ ?_ <;> conv => whnf))
          refine hret_low hE ?_
          conv => whnf
          exact ⟨rfl, rfl, rfl, rfl, nl_ex _, rfl⟩
      · have hst2 : ¬ c.toNat = 124 ∧ ¬ c.toNat = 41 := ⟨fun e => hst (.inl (UInt8.toNat_inj.1 e)), fun e => hst (.inr (UInt8.toNat_inj.1 e))⟩
        obtain ⟨h124, h41⟩ := hst2
        rw [seqF, if_neg hst] at hI
        simp only [List.length_cons] at hn hs0 hsz
        have hit := h_item f c r (hf r (by omega))
        have hiz := item_sz c r (hz r (by omega))
        obtain ⟨x, s', b', hx⟩ : ∃ x s b, itemF f c r = (x, s, b) := ⟨_, _, _, rfl⟩
        rw [hx] at hit hiz hI
        simp only at hit hiz hI
        have hap := ex_app l x
        have hal := ex_app_len l x
        conv => whnf
        repeat' (first | (refine brd_t (by first | assumption | omega) ?_; conv => whnf) | (refine brd_f (by first | assumption | omega) ?_; conv => whnf) | (refine ask (by first | assumption | omega) ?_; conv => whnf) | (refine fit64 (by omega) ?_; conv => whnf) | (refine fit (by simp only [kmin, kmax]; omega) ?_; conv => whnf) | (refine br_t (by assumption) ?_; conv => whnf) | (refine br_f (by assumption) ?_; conv => whnf) | (refine get_of (by assumption) ?_; conv => whnf) | (refine get_map (by assumption) ?_; conv => whnf) | (refine call_mth hit hC hasBody_58 0 rfl trivial (exA_nr _) rfl ⟨⟨trivial, trivial, trivial⟩, trivial⟩ ⟨⟨trivial, trivial, trivial⟩, trivial⟩ ?_; conv => whnf) | (refine ask (Nat.le_refl 1) ?_; conv => whnf) | (refine ask ⟨?_, ?_, ?_⟩ ?_; omega; (show _ + 1 ≤ 9223372036854775807; omega); (show (_ + 1) * _ ≤ 140737488355328; omega); conv => whnf) | (refine draw_lex hE ?_ ?_; decide +kernel; conv => whnf) | (refine brd (fun h => ?_) (fun h => ?_) <;> conv => whnf) | (refine br (fun h => ?_) (fun h => ?_) <;> conv => whnf) | (refine ret_now hE ?_; conv => whnf) | (intro hlen; conv => whnf) | (refine seg_here ?_; conv => whnf) | (refine both ?_ ?_ <;> conv => whnf))
        all_goals
          refine next_drop [0, 2, 3] [4] (n, l ++ [x], s', b') ⟨?_, ?_, ?_, ?_⟩ (Nat.lt_succ_self n) ?_
          · show s'.length ≤ n; omega
          · show s'.length ≤ s0.length; omega
          · show szEL (l ++ [x]) + 8 * s'.length ≤ 320
            rw [szEL_app, szEL_one]; omega
          · show (if b' = true then (l ++ [x], s', true) else seqF f n s' (l ++ [x])) = (l1, s1, b1)
            rw [← hI]
          · conv => whnf
            rw [hap, ex_kill, ex_kill, hal]
            rfl

/-! ### alt -/
theorem h_alt (f : List UInt8 → PR) (s0 : List UInt8) (hlen : s0.length ≤ 40) (hf : ∀ r : List UInt8, r.length < s0.length → AltH f r) (hz : ∀ r : List UInt8, r.length < s0.length → FSz f r) (g : List UInt8 → PR)
    (hg : g s0 = (tog 3 (altF f s0.length (pSeq f s0).2.1 (pSeq f s0).2.2 [(pSeq f s0).1]).1, (altF f s0.length (pSeq f s0).2.1 (pSeq f s0).2.2 [(pSeq f s0).1]).2)) : AltH g s0 := by
  unfold AltH
  rw [hg]
  have hps := pseq_sz (f := f) s0 hz
  have hsq := h_seq f s0 false hlen hf hz
  rw [show seqA f s0 false = pSeq f s0 from rfl] at hsq
  obtain ⟨x0, s0', b0, hp⟩ : ∃ x s b, pSeq f s0 = (x, s, b) := ⟨_, _, _, rfl⟩
  rw [hp] at hps hsq ⊢
  simp only at hps hsq ⊢
  obtain ⟨l1, s1, b1, halt⟩ : ∃ l s b, altF f s0.length s0' b0 [x0] = (l, s, b) := ⟨_, _, _, rfl⟩
  rw [halt]
  have h324 : szEL [x0] + 8 * s0'.length ≤ 324 := by rw [szEL_one]; omega
  have hs0' : s0'.length ≤ s0.length := hps.2
  refine hfn_nl ?_
  refine hfnE (T := Try.tt) Try.func26 rfl tt_all follows_all ?_ ?_ fun C vs hC hE => ?_
  · kernel_rfl
  · exact Nat.le_of_ble_eq_true (by kernel_rfl)
  conv => whnf
  repeat' (first | (refine brd_t (by first | assumption | omega) ?_; conv => whnf) | (refine brd_f (by first | assumption | omega) ?_; conv => whnf) | (refine ask (by first | assumption | omega) ?_; conv => whnf) | (refine fit64 (by omega) ?_; conv => whnf) | (refine fit (by simp only [kmin, kmax]; omega) ?_; conv => whnf) | (refine br_t (by assumption) ?_; conv => whnf) | (refine br_f (by assumption) ?_; conv => whnf) | (refine get_of (by assumption) ?_; conv => whnf) | (refine get_map (by assumption) ?_; conv => whnf) | (refine call_mth hsq hC hasBody_41 0 rfl trivial (exA_nr _) rfl ⟨⟨trivial, trivial, trivial⟩, trivial⟩ ⟨⟨trivial, trivial, trivial⟩, trivial⟩ ?_; conv => whnf) | (refine draw_lex hE ?_ ?_; decide +kernel; conv => whnf) | (refine brd (fun h => ?_) (fun h => ?_) <;> conv => whnf) | (refine br (fun h => ?_) (fun h => ?_) <;> conv => whnf) | (refine ret_now hE ?_; conv => whnf) | (intro hlen; conv => whnf) | (refine seg_here ?_; conv => whnf) | (refine both ?_ ?_ <;> conv => whnf))
  refine loopE (fun ((n, l, s, b) : Nat × List Ex × List UInt8 × Bool) => ⟨16, [(0, .ptr 0 0 0), (2, .ptr 2 0 0), (3, .sl 3 0 l.length)], [some (.row 2 [.agg [.str s, .bool b]]), some (.hid vs [.ptr 0 0 0]), some (.row 3 [.agg [.int .i64 0, .int .i64 0, .nils]]), some (.row 3 (l.map exA))]⟩)
    (fun (n, l, s, b) => s.length ≤ n ∧ s.length ≤ s0.length ∧ szEL l + 8 * s.length ≤ 324 ∧ altF f n s b l = (l1, s1, b1)) (fun (n, _) => n) (s0.length, [x0], s0', b0) hE ?_ ?_ ⟨hs0', hs0', h324, halt⟩ ?_
  · kernel_rfl
  · exact at_keep [0, 2, 3] rfl
  rintro ⟨n, l, s, b⟩ ⟨hn, hs0, hsz, hI⟩
  have hn : s.length ≤ n := hn
  have hs0 : s.length ≤ s0.length := hs0
  have hsz : szEL l + 8 * s.length ≤ 324 := hsz
  have hI : altF f n s b l = (l1, s1, b1) := hI
  have hll := szEL_len l
  have hlm := exL_len l
  have htw := tog_walk 3 l (by omega)
  have htk := h_takes s b 124
  cases s with
  | nil =>
    have e1 : altF f n [] b l = (l, [], b) := by cases n <;> rfl
    rw [e1] at hI
    cases hI
    conv => whnf
    repeat' (first | (refine brd_t (by first | assumption | omega) ?_; conv => whnf) | (refine brd_f (by first | assumption | omega) ?_; conv => whnf) | (refine ask (by first | assumption | omega) ?_; conv => whnf) | (refine fit64 (by omega) ?_; conv => whnf) | (refine fit (by simp only [kmin, kmax]; omega) ?_; conv => whnf) | (refine br_t (by assumption) ?_; conv => whnf) | (refine br_f (by assumption) ?_; conv => whnf) | (refine get_of (by assumption) ?_; conv => whnf) | (refine get_map (by assumption) ?_; conv => whnf) | (refine call_mth htk hC hasBody_42 0 rfl ⟨trivial, trivial⟩ trivial rfl ⟨⟨trivial, trivial, trivial⟩, trivial⟩ ⟨⟨trivial, trivial, trivial⟩, trivial⟩ ?_; conv => whnf) | (refine call_up (up_frzK 3 14 [0, 2] (z := 3) rfl (nr_exs _) rfl (exL_len _).symm rfl (up_here ?_)); conv => whnf) | (refine call_eq (htw) hC hasBody_43 ?_ ?_ ?_; kernel_rfl; kernel_rfl; conv => whnf) | (refine callq_eq (htw) hC hasBody_43 ?_ ?_ ?_; kernel_rfl; kernel_rfl; conv => whnf) | (refine draw_lex hE ?_ ?_; decide +kernel; conv => whnf) | (refine brd (fun h => ?_) (fun h => ?_) <;> conv => whnf) | (refine br (fun h => ?_) (fun h => ?_) <;> conv => whnf) | (refine ret_now hE ?_; conv => whnf) | (intro hlen; conv => whnf) | (refine seg_here ?_; conv => whnf) | (refine both ?_ ?_ <;> conv => whnf))
    refine hret_low hE ?_
    conv => whnf
    exact ⟨rfl, rfl, rfl, rfl, nl_ex _, rfl⟩
  | cons c r =>
    cases n with
    | zero => exact absurd hn (by simp)
    | succ n =>
    by_cases h124 : c = 124
    · have ht : takB (c :: r) 124 = true := by rw [h124]; rfl
      have hs : takS (c :: r) 124 = r := by rw [h124]; rfl
      rw [ht, hs] at htk
      rw [altF, if_pos h124] at hI
      simp only [List.length_cons] at hn hs0 hsz
      have hsq2 := h_seq f r b (by omega) (fun q hq => hf q (by omega)) (fun q hq => hz q (by omega))
      have hpz := pseq_sz (f := f) r (fun q hq => hz q (by omega))
      have hI2 : altF f n (seqA f r b).2.1 (seqA f r b).2.2 (l ++ [(seqA f r b).1]) = (l1, s1, b1) := by
        rw [← hI]
        unfold seqA
        cases b <;> rfl
      have hsz2 : szE (seqA f r b).1 + 8 * (seqA f r b).2.1.length ≤ 8 * r.length + 4 ∧ (seqA f r b).2.1.length ≤ r.length := by
        unfold seqA
        split
        · have : szE (tog 2 []) = 4 := by rw [tog_nil, szE_mk]; simp [szEL_sum]
          simp only; omega
        · exact hpz
      obtain ⟨x, s', b', hx⟩ : ∃ x s b', seqA f r b = (x, s, b') := ⟨_, _, _, rfl⟩
      rw [hx] at hsq2 hsz2 hI2
      simp only at hsq2 hsz2 hI2
      have hap := ex_app l x
      have hal := ex_app_len l x
      conv => whnf
      repeat' (first | (refine brd_t (by first | assumption | omega) ?_; conv => whnf) | (refine brd_f (by first | assumption | omega) ?_; conv => whnf) | (refine ask (by first | assumption | omega) ?_; conv => whnf) | (refine fit64 (by omega) ?_; conv => whnf) | (refine fit (by simp only [kmin, kmax]; omega) ?_; conv => whnf) | (refine br_t (by assumption) ?_; conv => whnf) | (refine br_f (by assumption) ?_; conv => whnf) | (refine get_of (by assumption) ?_; conv => whnf) | (refine get_map (by assumption) ?_; conv => whnf) | (refine call_mth htk hC hasBody_42 0 rfl ⟨trivial, trivial⟩ trivial rfl ⟨⟨trivial, trivial, trivial⟩, trivial⟩ ⟨⟨trivial, trivial, trivial⟩, trivial⟩ ?_; conv => whnf) | (refine call_mth hsq2 hC hasBody_41 0 rfl trivial (exA_nr _) rfl ⟨⟨trivial, trivial, trivial⟩, trivial⟩ ⟨⟨trivial, trivial, trivial⟩, trivial⟩ ?_; conv => whnf) | (refine ask (Nat.le_refl 1) ?_; conv => whnf) | (refine ask ⟨?_, ?_, ?_⟩ ?_; omega; (show _ + 1 ≤ 9223372036854775807; omega); (show (_ + 1) * _ ≤ 140737488355328; omega); conv => whnf) | (refine draw_lex hE ?_ ?_; decide +kernel; conv => whnf) | (refine brd (fun h => ?_) (fun h => ?_) <;> conv => whnf) | (refine br (fun h => ?_) (fun h => ?_) <;> conv => whnf) | (refine ret_now hE ?_; conv => whnf) | (intro hlen; conv => whnf) | (refine seg_here ?_; conv => whnf) | (refine both ?_ ?_ <;> conv => whnf))
      all_goals
        refine next_drop [0, 2, 3] [4] (n, l ++ [x], s', b') ⟨?_, ?_, ?_, hI2⟩ (Nat.lt_succ_self n) ?_
        · show s'.length ≤ n; omega
        · show s'.length ≤ s0.length; omega
        · show szEL (l ++ [x]) + 8 * s'.length ≤ 324
          rw [szEL_app, szEL_one]; omega
        · conv => whnf
          rw [hap, ex_kill, ex_kill, hal]
          rfl
    · have ht : takB (c :: r) 124 = false := by unfold takB; rw [decide_eq_false_iff_not]; simpa using h124
      have hs : takS (c :: r) 124 = c :: r := by unfold takS; rw [if_neg (by simpa using h124)]
      rw [ht, hs] at htk
      rw [altF, if_neg h124] at hI
      cases hI
      conv => whnf
      repeat' (first | (refine brd_t (by first | assumption | omega) ?_; conv => whnf) | (refine brd_f (by first | assumption | omega) ?_; conv => whnf) | (refine ask (by first | assumption | omega) ?_; conv => whnf) | (refine fit64 (by omega) ?_; conv => whnf) | (refine fit (by simp only [kmin, kmax]; omega) ?_; conv => whnf) | (refine br_t (by assumption) ?_; conv => whnf) | (refine br_f (by assumption) ?_; conv => whnf) | (refine get_of (by assumption) ?_; conv => whnf) | (refine get_map (by assumption) ?_; conv => whnf) | (refine call_mth htk hC hasBody_42 0 rfl ⟨trivial, trivial⟩ trivial rfl ⟨⟨trivial, trivial, trivial⟩, trivial⟩ ⟨⟨trivial, trivial, trivial⟩, trivial⟩ ?_; conv => whnf) | (refine call_up (up_frzK 3 14 [0, 2] (z := 3) rfl (nr_exs _) rfl (exL_len _).symm rfl (up_here ?_)); conv => whnf) | (refine call_eq (htw) hC hasBody_43 ?_ ?_ ?_; kernel_rfl; kernel_rfl; conv => whnf) | (refine callq_eq (htw) hC hasBody_43 ?_ ?_ ?_; kernel_rfl; kernel_rfl; conv => whnf) | (refine draw_lex hE ?_ ?_; decide +kernel; conv => whnf) | (refine brd (fun h => ?_) (fun h => ?_) <;> conv => whnf) | (refine br (fun h => ?_) (fun h => ?_) <;> conv => whnf) | (refine ret_now hE ?_; conv => whnf) | (intro hlen; conv => whnf) | (refine seg_here ?_; conv => whnf) | (refine both ?_ ?_ <;> conv => whnf))
      refine hret_low hE ?_
      conv => whnf
      exact ⟨rfl, rfl, rfl, rfl, nl_ex _, rfl⟩
theorem alt_walk : ∀ (n : Nat) (s : List UInt8), s.length < n → s.length ≤ 40 → AltH (pAlt n) s
  | 0, s, h, _ => absurd h (Nat.not_lt_zero _)
  | n + 1, s, h, h40 => h_alt (pAlt n) s h40 (fun r hr => alt_walk n r (by omega) (by omega)) (fun r hr => palt_sz n r (by omega)) (pAlt (n + 1)) rfl
end Go.Proofs.Yteappcclfjafeaa
