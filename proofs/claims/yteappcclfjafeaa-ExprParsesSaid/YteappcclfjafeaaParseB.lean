/- The parser's item, seq and alt, walked. No conditions. -/
import Derived.Test.YteappcclfjafeaaParse
set_option linter.unusedSimpArgs false
set_option linter.unusedVariables false
set_option maxRecDepth 100000
namespace Go.Proofs.Yteappcclfjafeaa
open Go.RowKit

/-! ### item -/
theorem idx_sgn (c : UInt8) : Lib.indexByte [42, 43, 63] c = if c = 42 then 0 else if c = 43 then 1 else if c = 63 then 2 else -1 := by
  by_cases h1 : c = 42
  · subst h1; rfl
  · by_cases h2 : c = 43
    · subst h2; rfl
    · by_cases h3 : c = 63
      · subst h3; rfl
      · have e1 : ((42 : UInt8) == c) = false := by rw [beq_eq_false_iff_ne]; exact fun e => h1 e.symm
        have e2 : ((43 : UInt8) == c) = false := by rw [beq_eq_false_iff_ne]; exact fun e => h2 e.symm
        have e3 : ((63 : UInt8) == c) = false := by rw [beq_eq_false_iff_ne]; exact fun e => h3 e.symm
        simp [Lib.indexByte, e1, e2, e3, h1, h2, h3]
theorem suf_cons_sgn {x : Ex} {c : UInt8} {r : List UInt8} (h : isSgn c = true) : suf x (c :: r) = suf (.mk (sgnK c) 0 [x]) r := by rw [suf, if_pos h]
theorem suf_cons_no {x : Ex} {c : UInt8} {r : List UInt8} (h : ¬ isSgn c = true) : suf x (c :: r) = (x, c :: r) := by rw [suf, if_neg h]
theorem frz_sign (x : Ex) (k : Int) : frzL 4 [exA x] [V.agg [.int .i64 k, .int .i64 0, .sl 4 0 1]] = [.agg [.int .i64 k, .int .i64 0, .lst [exA x]]] := by simp [frzL, V.frz]
theorem exA_one (k : Int) (x : Ex) : exA (.mk k 0 [x]) = .agg [.int .i64 k, .int .i64 0, .lst [exA x]] := exA_mk k 0 [x]
/-- The contract of alt, where shorter texts are left. -/
def AltH (f : List UInt8 → PR) (r : List UInt8) : Prop := HFn Try.prog 26 [.ptr 0 0 0] (obP r false) [0] (fun v o => v = exA (f r).1 ∧ o = obP (f r).2.1 (f r).2.2)
set_option maxHeartbeats 8000000 in
theorem h_item (f : List UInt8 → PR) (c : UInt8) (r : List UInt8) (hf : AltH f r) : HFn Try.prog 58 [.ptr 0 0 0] (obP (c :: r) false) [0] (fun v o => v = exA (itemF f c r).1 ∧ o = obP (itemF f c r).2.1 (itemF f c r).2.2) := by
  have hc := c.toNat_lt
  obtain ⟨x0, s0, b0, hbase⟩ : ∃ x s b, baseF f c r = (x, s, b) := ⟨_, _, _, rfl⟩
  have hi : itemF f c r = ((suf x0 s0).1, (suf x0 s0).2, b0) := by unfold itemF; rw [hbase]
  rw [hi]
  refine hfn_nl ?_
  refine hfnE (T := Try.tt) Try.func58 rfl tt_all follows_all ?_ ?_ fun C vs hC hE => ?_
  · kernel_rfl
  · exact Nat.le_of_ble_eq_true (by kernel_rfl)
  have h0 : Int.toNat 0 < (c :: r).length := by simp
  have h1 : Int.toNat 1 ≤ (c :: r).length := by simp
  have hD : isLow c = true ∧ (97 ≤ c.toNat ∧ c.toNat ≤ 104) ∧ x0 = .mk 1 ((c.toNat : Int) - 97) [] ∧ s0 = r ∧ b0 = false ∨ ¬ (97 ≤ c.toNat ∧ c.toNat ≤ 104) ∧ c.toNat = 40 ∧ (∃ xa sa ba, f r = (xa, sa, ba) ∧ (ba = true ∧ x0 = xa ∧ s0 = sa ∧ b0 = true ∨ ba = false ∧ takB sa 41 = true ∧ x0 = xa ∧ s0 = takS sa 41 ∧ b0 = false ∨ ba = false ∧ takB sa 41 = false ∧ x0 = xa ∧ s0 = takS sa 41 ∧ b0 = true)) ∨
      ¬ (97 ≤ c.toNat ∧ c.toNat ≤ 104) ∧ ¬ c.toNat = 40 ∧ x0 = .mk 0 0 [] ∧ s0 = r ∧ b0 = true := by
    unfold baseF at hbase
    by_cases hlow : isLow c = true
    · rw [if_pos hlow] at hbase
      cases hbase
      exact .inl ⟨hlow, by unfold isLow at hlow; simpa using hlow, rfl, rfl, rfl⟩
    · rw [if_neg hlow] at hbase
      have hnl : ¬ (97 ≤ c.toNat ∧ c.toNat ≤ 104) := by unfold isLow at hlow; simpa using hlow
      by_cases h40 : c = 40
      · rw [if_pos h40] at hbase
        refine .inr (.inl ⟨hnl, by rw [h40]; rfl, ?_⟩)
        generalize f r = q at hbase
        obtain ⟨xa, sa, ba⟩ := q
        refine ⟨xa, sa, ba, rfl, ?_⟩
        cases ba with
        | true =>
          simp only at hbase
          cases hbase
          exact .inl ⟨rfl, rfl, rfl, rfl⟩
        | false =>
          cases sa with
          | nil =>
            simp only at hbase
            cases hbase
            exact .inr (.inr ⟨rfl, rfl, rfl, rfl, rfl⟩)
          | cons d s' =>
            simp only at hbase
            by_cases hd : d = 41
            · rw [if_pos hd] at hbase
              cases hbase
              exact .inr (.inl ⟨rfl, by rw [hd]; rfl, rfl, by rw [hd]; rfl, rfl⟩)
            · rw [if_neg hd] at hbase
              cases hbase
              refine .inr (.inr ⟨rfl, ?_, rfl, ?_, rfl⟩)
              · unfold takB; rw [decide_eq_false_iff_not]; simpa using hd
              · unfold takS; rw [if_neg (by simpa using hd)]
      · rw [if_neg h40] at hbase
        cases hbase
        exact .inr (.inr ⟨hnl, fun e => h40 (UInt8.toNat_inj.1 e), rfl, rfl, rfl⟩)
  rcases hD with ⟨_, hb, rfl, rfl, rfl⟩ | ⟨hb, h40, xa, sa, ba, hfr, hD⟩ | ⟨hb, h40, rfl, rfl, rfl⟩
  · conv => whnf
    repeat' (first | (refine brd_t (by first | assumption | omega) ?_; conv => whnf) | (refine brd_f (by first | assumption | omega) ?_; conv => whnf) | (refine ask (by first | assumption | omega) ?_; conv => whnf) | (refine fit64 (by omega) ?_; conv => whnf) | (refine fit (by simp only [kmin, kmax]; omega) ?_; conv => whnf) | (refine br_t (by assumption) ?_; conv => whnf) | (refine br_f (by assumption) ?_; conv => whnf) | (refine get_of (by assumption) ?_; conv => whnf) | (refine get_map (by assumption) ?_; conv => whnf) | (refine draw_lex hE ?_ ?_; decide +kernel; conv => whnf) | (refine brd (fun h => ?_) (fun h => ?_) <;> conv => whnf) | (refine br (fun h => ?_) (fun h => ?_) <;> conv => whnf) | (refine ret_now hE ?_; conv => whnf) | (intro hlen; conv => whnf) | (refine seg_here ?_; conv => whnf) | (refine both ?_ ?_ <;> conv => whnf))
    generalize hR : suf (.mk 1 ((c.toNat : Int) - 97) []) s0 = R
    refine loopE (fun ((x, s) : Ex × List UInt8) => ⟨77, [(0, .ptr 0 0 0), (2, .ptr 2 0 0), (4, .ptr 3 0 0)], [some (.row 2 [.agg [.str s, .bool false]]), some (.hid vs [.ptr 0 0 0]), some (.row 3 [.agg [.int .i64 0, .int .i64 0, .nils]]), some (.row 3 [exA x])]⟩)
      (fun (x, s) => suf x s = R) (fun (_, s) => s.length) ((.mk 1 ((c.toNat : Int) - 97) []), s0) hE ?_ ?_ hR ?_
    · kernel_rfl
    · first
        | exact at_keep [0, 2, 4] rfl
        | exact up_nl 3 rfl (at_keep [0, 2, 4] rfl)
    rintro ⟨x, s⟩ hI
    have hI : suf x s = R := hI
    obtain ⟨k, t, ps⟩ := x
    cases s with
    | nil =>
      have hI : (Ex.mk k t ps, []) = R := hI
      subst hI
      conv => whnf
      repeat' (first | (refine brd_t (by first | assumption | omega) ?_; conv => whnf) | (refine brd_f (by first | assumption | omega) ?_; conv => whnf) | (refine ask (by first | assumption | omega) ?_; conv => whnf) | (refine fit64 (by omega) ?_; conv => whnf) | (refine fit (by simp only [kmin, kmax]; omega) ?_; conv => whnf) | (refine br_t (by assumption) ?_; conv => whnf) | (refine br_f (by assumption) ?_; conv => whnf) | (refine get_of (by assumption) ?_; conv => whnf) | (refine get_map (by assumption) ?_; conv => whnf) | (refine brd_t rfl ?_; conv => whnf) | (refine draw_lex hE ?_ ?_; decide +kernel; conv => whnf) | (refine brd (fun h => ?_) (fun h => ?_) <;> conv => whnf) | (refine br (fun h => ?_) (fun h => ?_) <;> conv => whnf) | (refine ret_now hE ?_; conv => whnf) | (intro hlen; conv => whnf) | (refine seg_here ?_; conv => whnf) | (refine both ?_ ?_ <;> conv => whnf))
      refine hret_low hE ?_
      conv => whnf
      exact ⟨rfl, rfl, rfl, rfl, nl_ex (.mk k t ps), rfl⟩
    | cons d s =>
      have hn : ¬ (d :: s = []) := by simp
      have hn1 : Int.toNat 1 ≤ (d :: s).length := by simp
      have hn0 : Int.toNat 0 < (d :: s).length := by simp
      by_cases hs : isSgn d = true
      · rw [suf_cons_sgn hs] at hI
        have h3 : d = 42 ∨ d = 43 ∨ d = 63 := by unfold isSgn at hs; simpa [or_assoc] using hs
        rcases h3 with rfl | rfl | rfl
        · have hix : Fn1 Try.prog 68 [.str [42, 43, 63], .int .u8 (42 : UInt8).toNat] (fun r => r = .int .i64 0) := idx_byte [42, 43, 63] 42
          conv => whnf
          repeat' (first | (refine brd_t (by first | assumption | omega) ?_; conv => whnf) | (refine brd_f (by first | assumption | omega) ?_; conv => whnf) | (refine ask (by first | assumption | omega) ?_; conv => whnf) | (refine fit64 (by omega) ?_; conv => whnf) | (refine fit (by simp only [kmin, kmax]; omega) ?_; conv => whnf) | (refine br_t (by assumption) ?_; conv => whnf) | (refine br_f (by assumption) ?_; conv => whnf) | (refine get_of (by assumption) ?_; conv => whnf) | (refine get_map (by assumption) ?_; conv => whnf) | (refine call_eq (hix) hC hasBody_68 ?_ ?_ ?_; kernel_rfl; kernel_rfl; conv => whnf) | (refine callq_eq (hix) hC hasBody_68 ?_ ?_ ?_; kernel_rfl; kernel_rfl; conv => whnf) | (refine draw_lex hE ?_ ?_; decide +kernel; conv => whnf) | (refine brd (fun h => ?_) (fun h => ?_) <;> conv => whnf) | (refine br (fun h => ?_) (fun h => ?_) <;> conv => whnf) | (refine ret_now hE ?_; conv => whnf) | (intro hlen; conv => whnf) | (refine seg_here ?_; conv => whnf) | (refine both ?_ ?_ <;> conv => whnf))
          refine up_freeze 4 (z := 3) (els := [exA (.mk k t ps)]) rfl ⟨exA_nr (.mk k t ps), trivial⟩ (next_drop [0, 2, 4] [] (.mk 4 0 [.mk k t ps], s) hI (Nat.lt_succ_self _) ?_)
          conv => whnf
          simp only [List.set_cons_zero, frz_sign (.mk k t ps), exA_one]
          rfl
        · have hix : Fn1 Try.prog 68 [.str [42, 43, 63], .int .u8 (43 : UInt8).toNat] (fun r => r = .int .i64 1) := idx_byte [42, 43, 63] 43
          conv => whnf
          repeat' (first | (refine brd_t (by first | assumption | omega) ?_; conv => whnf) | (refine brd_f (by first | assumption | omega) ?_; conv => whnf) | (refine ask (by first | assumption | omega) ?_; conv => whnf) | (refine fit64 (by omega) ?_; conv => whnf) | (refine fit (by simp only [kmin, kmax]; omega) ?_; conv => whnf) | (refine br_t (by assumption) ?_; conv => whnf) | (refine br_f (by assumption) ?_; conv => whnf) | (refine get_of (by assumption) ?_; conv => whnf) | (refine get_map (by assumption) ?_; conv => whnf) | (refine call_eq (hix) hC hasBody_68 ?_ ?_ ?_; kernel_rfl; kernel_rfl; conv => whnf) | (refine callq_eq (hix) hC hasBody_68 ?_ ?_ ?_; kernel_rfl; kernel_rfl; conv => whnf) | (refine draw_lex hE ?_ ?_; decide +kernel; conv => whnf) | (refine brd (fun h => ?_) (fun h => ?_) <;> conv => whnf) | (refine br (fun h => ?_) (fun h => ?_) <;> conv => whnf) | (refine ret_now hE ?_; conv => whnf) | (intro hlen; conv => whnf) | (refine seg_here ?_; conv => whnf) | (refine both ?_ ?_ <;> conv => whnf))
          refine up_freeze 4 (z := 3) (els := [exA (.mk k t ps)]) rfl ⟨exA_nr (.mk k t ps), trivial⟩ (next_drop [0, 2, 4] [] (.mk 5 0 [.mk k t ps], s) hI (Nat.lt_succ_self _) ?_)
          conv => whnf
          simp only [List.set_cons_zero, frz_sign (.mk k t ps), exA_one]
          rfl
        · have hix : Fn1 Try.prog 68 [.str [42, 43, 63], .int .u8 (63 : UInt8).toNat] (fun r => r = .int .i64 2) := idx_byte [42, 43, 63] 63
          conv => whnf
          repeat' (first | (refine brd_t (by first | assumption | omega) ?_; conv => whnf) | (refine brd_f (by first | assumption | omega) ?_; conv => whnf) | (refine ask (by first | assumption | omega) ?_; conv => whnf) | (refine fit64 (by omega) ?_; conv => whnf) | (refine fit (by simp only [kmin, kmax]; omega) ?_; conv => whnf) | (refine br_t (by assumption) ?_; conv => whnf) | (refine br_f (by assumption) ?_; conv => whnf) | (refine get_of (by assumption) ?_; conv => whnf) | (refine get_map (by assumption) ?_; conv => whnf) | (refine call_eq (hix) hC hasBody_68 ?_ ?_ ?_; kernel_rfl; kernel_rfl; conv => whnf) | (refine callq_eq (hix) hC hasBody_68 ?_ ?_ ?_; kernel_rfl; kernel_rfl; conv => whnf) | (refine draw_lex hE ?_ ?_; decide +kernel; conv => whnf) | (refine brd (fun h => ?_) (fun h => ?_) <;> conv => whnf) | (refine br (fun h => ?_) (fun h => ?_) <;> conv => whnf) | (refine ret_now hE ?_; conv => whnf) | (intro hlen; conv => whnf) | (refine seg_here ?_; conv => whnf) | (refine both ?_ ?_ <;> conv => whnf))
          refine up_freeze 4 (z := 3) (els := [exA (.mk k t ps)]) rfl ⟨exA_nr (.mk k t ps), trivial⟩ (next_drop [0, 2, 4] [] (.mk 6 0 [.mk k t ps], s) hI (Nat.lt_succ_self _) ?_)
          conv => whnf
          simp only [List.set_cons_zero, frz_sign (.mk k t ps), exA_one]
          rfl
      · rw [suf_cons_no hs] at hI
        subst hI
        have h3 : ¬ d = 42 ∧ ¬ d = 43 ∧ ¬ d = 63 := by unfold isSgn at hs; simpa [and_assoc] using hs
        have hix := idx_byte [42, 43, 63] d
        rw [idx_sgn, if_neg h3.1, if_neg h3.2.1, if_neg h3.2.2] at hix
        conv => whnf
        repeat' (first | (refine brd_t (by first | assumption | omega) ?_; conv => whnf) | (refine brd_f (by first | assumption | omega) ?_; conv => whnf) | (refine ask (by first | assumption | omega) ?_; conv => whnf) | (refine fit64 (by omega) ?_; conv => whnf) | (refine fit (by simp only [kmin, kmax]; omega) ?_; conv => whnf) | (refine br_t (by assumption) ?_; conv => whnf) | (refine br_f (by assumption) ?_; conv => whnf) | (refine get_of (by assumption) ?_; conv => whnf) | (refine get_map (by assumption) ?_; conv => whnf) | (refine call_eq (hix) hC hasBody_68 ?_ ?_ ?_; kernel_rfl; kernel_rfl; conv => whnf) | (refine callq_eq (hix) hC hasBody_68 ?_ ?_ ?_; kernel_rfl; kernel_rfl; conv => whnf) | (refine draw_lex hE ?_ ?_; decide +kernel; conv => whnf) | (refine brd (fun h => ?_) (fun h => ?_) <;> conv => whnf) | (refine br (fun h => ?_) (fun h => ?_) <;> conv => whnf) | (refine ret_now hE ?_; conv => whnf) | (intro hlen; conv => whnf) | (refine seg_here ?_; conv => whnf) | (refine both ?_ ?_ <;> conv => whnf))
        refine hret_low hE ?_
        conv => whnf
        exact ⟨rfl, rfl, rfl, rfl, nl_ex (.mk k t ps), rfl⟩
  · unfold AltH at hf
    rw [hfr] at hf
    simp only at hf
    have htk := h_takes sa false 41
    rcases hD with ⟨rfl, rfl, rfl, rfl⟩ | ⟨rfl, ht, rfl, rfl, rfl⟩ | ⟨rfl, ht, rfl, rfl, rfl⟩
    · conv => whnf
      repeat' (first | (refine brd_t (by first | assumption | omega) ?_; conv => whnf) | (refine brd_f (by first | assumption | omega) ?_; conv => whnf) | (refine ask (by first | assumption | omega) ?_; conv => whnf) | (refine fit64 (by omega) ?_; conv => whnf) | (refine fit (by simp only [kmin, kmax]; omega) ?_; conv => whnf) | (refine br_t (by assumption) ?_; conv => whnf) | (refine br_f (by assumption) ?_; conv => whnf) | (refine get_of (by assumption) ?_; conv => whnf) | (refine get_map (by assumption) ?_; conv => whnf) | (refine call_mth hf hC hasBody_26 0 rfl trivial (exA_nr _) rfl ⟨⟨trivial, trivial, trivial⟩, trivial⟩ ⟨⟨trivial, trivial, trivial⟩, trivial⟩ ?_; conv => whnf) | (refine draw_lex hE ?_ ?_; decide +kernel; conv => whnf) | (refine brd (fun h => ?_) (fun h => ?_) <;> conv => whnf) | (refine br (fun h => ?_) (fun h => ?_) <;> conv => whnf) | (refine ret_now hE ?_; conv => whnf) | (intro hlen; conv => whnf) | (refine seg_here ?_; conv => whnf) | (refine both ?_ ?_ <;> conv => whnf))
      generalize hR : suf x0 s0 = R
      refine loopE (fun ((x, s) : Ex × List UInt8) => ⟨77, [(0, .ptr 0 0 0), (2, .ptr 2 0 0), (4, .ptr 3 0 0)], [some (.row 2 [.agg [.str s, .bool true]]), some (.hid vs [.ptr 0 0 0]), some (.row 3 [.agg [.int .i64 0, .int .i64 0, .nils]]), some (.row 3 [exA x])]⟩)
        (fun (x, s) => suf x s = R) (fun (_, s) => s.length) (x0, s0) hE ?_ ?_ hR ?_
      · kernel_rfl
      · first
          | exact at_keep [0, 2, 4] rfl
          | exact up_nl 3 rfl (at_keep [0, 2, 4] rfl)
      rintro ⟨x, s⟩ hI
      have hI : suf x s = R := hI
      obtain ⟨k, t, ps⟩ := x
      cases s with
      | nil =>
        have hI : (Ex.mk k t ps, []) = R := hI
        subst hI
        conv => whnf
        repeat' (first | (refine brd_t (by first | assumption | omega) ?_; conv => whnf) | (refine brd_f (by first | assumption | omega) ?_; conv => whnf) | (refine ask (by first | assumption | omega) ?_; conv => whnf) | (refine fit64 (by omega) ?_; conv => whnf) | (refine fit (by simp only [kmin, kmax]; omega) ?_; conv => whnf) | (refine br_t (by assumption) ?_; conv => whnf) | (refine br_f (by assumption) ?_; conv => whnf) | (refine get_of (by assumption) ?_; conv => whnf) | (refine get_map (by assumption) ?_; conv => whnf) | (refine brd_t rfl ?_; conv => whnf) | (refine draw_lex hE ?_ ?_; decide +kernel; conv => whnf) | (refine brd (fun h => ?_) (fun h => ?_) <;> conv => whnf) | (refine br (fun h => ?_) (fun h => ?_) <;> conv => whnf) | (refine ret_now hE ?_; conv => whnf) | (intro hlen; conv => whnf) | (refine seg_here ?_; conv => whnf) | (refine both ?_ ?_ <;> conv => whnf))
        refine hret_low hE ?_
        conv => whnf
        exact ⟨rfl, rfl, rfl, rfl, nl_ex (.mk k t ps), rfl⟩
      | cons d s =>
        have hn : ¬ (d :: s = []) := by simp
        have hn1 : Int.toNat 1 ≤ (d :: s).length := by simp
        have hn0 : Int.toNat 0 < (d :: s).length := by simp
        by_cases hs : isSgn d = true
        · rw [suf_cons_sgn hs] at hI
          have h3 : d = 42 ∨ d = 43 ∨ d = 63 := by unfold isSgn at hs; simpa [or_assoc] using hs
          rcases h3 with rfl | rfl | rfl
          · have hix : Fn1 Try.prog 68 [.str [42, 43, 63], .int .u8 (42 : UInt8).toNat] (fun r => r = .int .i64 0) := idx_byte [42, 43, 63] 42
            conv => whnf
            repeat' (first | (refine brd_t (by first | assumption | omega) ?_; conv => whnf) | (refine brd_f (by first | assumption | omega) ?_; conv => whnf) | (refine ask (by first | assumption | omega) ?_; conv => whnf) | (refine fit64 (by omega) ?_; conv => whnf) | (refine fit (by simp only [kmin, kmax]; omega) ?_; conv => whnf) | (refine br_t (by assumption) ?_; conv => whnf) | (refine br_f (by assumption) ?_; conv => whnf) | (refine get_of (by assumption) ?_; conv => whnf) | (refine get_map (by assumption) ?_; conv => whnf) | (refine call_eq (hix) hC hasBody_68 ?_ ?_ ?_; kernel_rfl; kernel_rfl; conv => whnf) | (refine callq_eq (hix) hC hasBody_68 ?_ ?_ ?_; kernel_rfl; kernel_rfl; conv => whnf) | (refine draw_lex hE ?_ ?_; decide +kernel; conv => whnf) | (refine brd (fun h => ?_) (fun h => ?_) <;> conv => whnf) | (refine br (fun h => ?_) (fun h => ?_) <;> conv => whnf) | (refine ret_now hE ?_; conv => whnf) | (intro hlen; conv => whnf) | (refine seg_here ?_; conv => whnf) | (refine both ?_ ?_ <;> conv => whnf))
            refine up_freeze 4 (z := 3) (els := [exA (.mk k t ps)]) rfl ⟨exA_nr (.mk k t ps), trivial⟩ (next_drop [0, 2, 4] [] (.mk 4 0 [.mk k t ps], s) hI (Nat.lt_succ_self _) ?_)
            conv => whnf
            simp only [List.set_cons_zero, frz_sign (.mk k t ps), exA_one]
            rfl
          · have hix : Fn1 Try.prog 68 [.str [42, 43, 63], .int .u8 (43 : UInt8).toNat] (fun r => r = .int .i64 1) := idx_byte [42, 43, 63] 43
            conv => whnf
            repeat' (first | (refine brd_t (by first | assumption | omega) ?_; conv => whnf) | (refine brd_f (by first | assumption | omega) ?_; conv => whnf) | (refine ask (by first | assumption | omega) ?_; conv => whnf) | (refine fit64 (by omega) ?_; conv => whnf) | (refine fit (by simp only [kmin, kmax]; omega) ?_; conv => whnf) | (refine br_t (by assumption) ?_; conv => whnf) | (refine br_f (by assumption) ?_; conv => whnf) | (refine get_of (by assumption) ?_; conv => whnf) | (refine get_map (by assumption) ?_; conv => whnf) | (refine call_eq (hix) hC hasBody_68 ?_ ?_ ?_; kernel_rfl; kernel_rfl; conv => whnf) | (refine callq_eq (hix) hC hasBody_68 ?_ ?_ ?_; kernel_rfl; kernel_rfl; conv => whnf) | (refine draw_lex hE ?_ ?_; decide +kernel; conv => whnf) | (refine brd (fun h => ?_) (fun h => ?_) <;> conv => whnf) | (refine br (fun h => ?_) (fun h => ?_) <;> conv => whnf) | (refine ret_now hE ?_; conv => whnf) | (intro hlen; conv => whnf) | (refine seg_here ?_; conv => whnf) | (refine both ?_ ?_ <;> conv => whnf))
            refine up_freeze 4 (z := 3) (els := [exA (.mk k t ps)]) rfl ⟨exA_nr (.mk k t ps), trivial⟩ (next_drop [0, 2, 4] [] (.mk 5 0 [.mk k t ps], s) hI (Nat.lt_succ_self _) ?_)
            conv => whnf
            simp only [List.set_cons_zero, frz_sign (.mk k t ps), exA_one]
            rfl
          · have hix : Fn1 Try.prog 68 [.str [42, 43, 63], .int .u8 (63 : UInt8).toNat] (fun r => r = .int .i64 2) := idx_byte [42, 43, 63] 63
            conv => whnf
            repeat' (first | (refine brd_t (by first | assumption | omega) ?_; conv => whnf) | (refine brd_f (by first | assumption | omega) ?_; conv => whnf) | (refine ask (by first | assumption | omega) ?_; conv => whnf) | (refine fit64 (by omega) ?_; conv => whnf) | (refine fit (by simp only [kmin, kmax]; omega) ?_; conv => whnf) | (refine br_t (by assumption) ?_; conv => whnf) | (refine br_f (by assumption) ?_; conv => whnf) | (refine get_of (by assumption) ?_; conv => whnf) | (refine get_map (by assumption) ?_; conv => whnf) | (refine call_eq (hix) hC hasBody_68 ?_ ?_ ?_; kernel_rfl; kernel_rfl; conv => whnf) | (refine callq_eq (hix) hC hasBody_68 ?_ ?_ ?_; kernel_rfl; kernel_rfl; conv => whnf) | (refine draw_lex hE ?_ ?_; decide +kernel; conv => whnf) | (refine brd (fun h => ?_) (fun h => ?_) <;> conv => whnf) | (refine br (fun h => ?_) (fun h => ?_) <;> conv => whnf) | (refine ret_now hE ?_; conv => whnf) | (intro hlen; conv => whnf) | (refine seg_here ?_; conv => whnf) | (refine both ?_ ?_ <;> conv => whnf))
            refine up_freeze 4 (z := 3) (els := [exA (.mk k t ps)]) rfl ⟨exA_nr (.mk k t ps), trivial⟩ (next_drop [0, 2, 4] [] (.mk 6 0 [.mk k t ps], s) hI (Nat.lt_succ_self _) ?_)
            conv => whnf
            simp only [List.set_cons_zero, frz_sign (.mk k t ps), exA_one]
            rfl
        · rw [suf_cons_no hs] at hI
          subst hI
          have h3 : ¬ d = 42 ∧ ¬ d = 43 ∧ ¬ d = 63 := by unfold isSgn at hs; simpa [and_assoc] using hs
          have hix := idx_byte [42, 43, 63] d
          rw [idx_sgn, if_neg h3.1, if_neg h3.2.1, if_neg h3.2.2] at hix
          conv => whnf
          repeat' (first | (refine brd_t (by first | assumption | omega) ?_; conv => whnf) | (refine brd_f (by first | assumption | omega) ?_; conv => whnf) | (refine ask (by first | assumption | omega) ?_; conv => whnf) | (refine fit64 (by omega) ?_; conv => whnf) | (refine fit (by simp only [kmin, kmax]; omega) ?_; conv => whnf) | (refine br_t (by assumption) ?_; conv => whnf) | (refine br_f (by assumption) ?_; conv => whnf) | (refine get_of (by assumption) ?_; conv => whnf) | (refine get_map (by assumption) ?_; conv => whnf) | (refine call_eq (hix) hC hasBody_68 ?_ ?_ ?_; kernel_rfl; kernel_rfl; conv => whnf) | (refine callq_eq (hix) hC hasBody_68 ?_ ?_ ?_; kernel_rfl; kernel_rfl; conv => whnf) | (refine draw_lex hE ?_ ?_; decide +kernel; conv => whnf) | (refine brd (fun h => ?_) (fun h => ?_) <;> conv => whnf) | (refine br (fun h => ?_) (fun h => ?_) <;> conv => whnf) | (refine ret_now hE ?_; conv => whnf) | (intro hlen; conv => whnf) | (refine seg_here ?_; conv => whnf) | (refine both ?_ ?_ <;> conv => whnf))
          refine hret_low hE ?_
          conv => whnf
          exact ⟨rfl, rfl, rfl, rfl, nl_ex (.mk k t ps), rfl⟩
    · rw [ht] at htk
      conv => whnf
      repeat' (first | (refine brd_t (by first | assumption | omega) ?_; conv => whnf) | (refine brd_f (by first | assumption | omega) ?_; conv => whnf) | (refine ask (by first | assumption | omega) ?_; conv => whnf) | (refine fit64 (by omega) ?_; conv => whnf) | (refine fit (by simp only [kmin, kmax]; omega) ?_; conv => whnf) | (refine br_t (by assumption) ?_; conv => whnf) | (refine br_f (by assumption) ?_; conv => whnf) | (refine get_of (by assumption) ?_; conv => whnf) | (refine get_map (by assumption) ?_; conv => whnf) | (refine call_mth hf hC hasBody_26 0 rfl trivial (exA_nr _) rfl ⟨⟨trivial, trivial, trivial⟩, trivial⟩ ⟨⟨trivial, trivial, trivial⟩, trivial⟩ ?_; conv => whnf) | (refine call_mth htk hC hasBody_42 0 rfl ⟨trivial, trivial⟩ trivial rfl ⟨⟨trivial, trivial, trivial⟩, trivial⟩ ⟨⟨trivial, trivial, trivial⟩, trivial⟩ ?_; conv => whnf) | (refine draw_lex hE ?_ ?_; decide +kernel; conv => whnf) | (refine brd (fun h => ?_) (fun h => ?_) <;> conv => whnf) | (refine br (fun h => ?_) (fun h => ?_) <;> conv => whnf) | (refine ret_now hE ?_; conv => whnf) | (intro hlen; conv => whnf) | (refine seg_here ?_; conv => whnf) | (refine both ?_ ?_ <;> conv => whnf))
      generalize hR : suf x0 (takS sa 41) = R
      refine loopE (fun ((x, s) : Ex × List UInt8) => ⟨77, [(0, .ptr 0 0 0), (2, .ptr 2 0 0), (4, .ptr 3 0 0)], [some (.row 2 [.agg [.str s, .bool false]]), some (.hid vs [.ptr 0 0 0]), some (.row 3 [.agg [.int .i64 0, .int .i64 0, .nils]]), some (.row 3 [exA x])]⟩)
        (fun (x, s) => suf x s = R) (fun (_, s) => s.length) (x0, (takS sa 41)) hE ?_ ?_ hR ?_
      · kernel_rfl
      · first
          | exact at_keep [0, 2, 4] rfl
          | exact up_nl 3 rfl (at_keep [0, 2, 4] rfl)
      rintro ⟨x, s⟩ hI
      have hI : suf x s = R := hI
      obtain ⟨k, t, ps⟩ := x
      cases s with
      | nil =>
        have hI : (Ex.mk k t ps, []) = R := hI
        subst hI
        conv => whnf
        repeat' (first | (refine brd_t (by first | assumption | omega) ?_; conv => whnf) | (refine brd_f (by first | assumption | omega) ?_; conv => whnf) | (refine ask (by first | assumption | omega) ?_; conv => whnf) | (refine fit64 (by omega) ?_; conv => whnf) | (refine fit (by simp only [kmin, kmax]; omega) ?_; conv => whnf) | (refine br_t (by assumption) ?_; conv => whnf) | (refine br_f (by assumption) ?_; conv => whnf) | (refine get_of (by assumption) ?_; conv => whnf) | (refine get_map (by assumption) ?_; conv => whnf) | (refine brd_t rfl ?_; conv => whnf) | (refine draw_lex hE ?_ ?_; decide +kernel; conv => whnf) | (refine brd (fun h => ?_) (fun h => ?_) <;> conv => whnf) | (refine br (fun h => ?_) (fun h => ?_) <;> conv => whnf) | (refine ret_now hE ?_; conv => whnf) | (intro hlen; conv => whnf) | (refine seg_here ?_; conv => whnf) | (refine both ?_ ?_ <;> conv => whnf))
        refine hret_low hE ?_
        conv => whnf
        exact ⟨rfl, rfl, rfl, rfl, nl_ex (.mk k t ps), rfl⟩
      | cons d s =>
        have hn : ¬ (d :: s = []) := by simp
        have hn1 : Int.toNat 1 ≤ (d :: s).length := by simp
        have hn0 : Int.toNat 0 < (d :: s).length := by simp
        by_cases hs : isSgn d = true
        · rw [suf_cons_sgn hs] at hI
          have h3 : d = 42 ∨ d = 43 ∨ d = 63 := by unfold isSgn at hs; simpa [or_assoc] using hs
          rcases h3 with rfl | rfl | rfl
          · have hix : Fn1 Try.prog 68 [.str [42, 43, 63], .int .u8 (42 : UInt8).toNat] (fun r => r = .int .i64 0) := idx_byte [42, 43, 63] 42
            conv => whnf
            repeat' (first | (refine brd_t (by first | assumption | omega) ?_; conv => whnf) | (refine brd_f (by first | assumption | omega) ?_; conv => whnf) | (refine ask (by first | assumption | omega) ?_; conv => whnf) | (refine fit64 (by omega) ?_; conv => whnf) | (refine fit (by simp only [kmin, kmax]; omega) ?_; conv => whnf) | (refine br_t (by assumption) ?_; conv => whnf) | (refine br_f (by assumption) ?_; conv => whnf) | (refine get_of (by assumption) ?_; conv => whnf) | (refine get_map (by assumption) ?_; conv => whnf) | (refine call_eq (hix) hC hasBody_68 ?_ ?_ ?_; kernel_rfl; kernel_rfl; conv => whnf) | (refine callq_eq (hix) hC hasBody_68 ?_ ?_ ?_; kernel_rfl; kernel_rfl; conv => whnf) | (refine draw_lex hE ?_ ?_; decide +kernel; conv => whnf) | (refine brd (fun h => ?_) (fun h => ?_) <;> conv => whnf) | (refine br (fun h => ?_) (fun h => ?_) <;> conv => whnf) | (refine ret_now hE ?_; conv => whnf) | (intro hlen; conv => whnf) | (refine seg_here ?_; conv => whnf) | (refine both ?_ ?_ <;> conv => whnf))
            refine up_freeze 4 (z := 3) (els := [exA (.mk k t ps)]) rfl ⟨exA_nr (.mk k t ps), trivial⟩ (next_drop [0, 2, 4] [] (.mk 4 0 [.mk k t ps], s) hI (Nat.lt_succ_self _) ?_)
            conv => whnf
            simp only [List.set_cons_zero, frz_sign (.mk k t ps), exA_one]
            rfl
          · have hix : Fn1 Try.prog 68 [.str [42, 43, 63], .int .u8 (43 : UInt8).toNat] (fun r => r = .int .i64 1) := idx_byte [42, 43, 63] 43
            conv => whnf
            repeat' (first | (refine brd_t (by first | assumption | omega) ?_; conv => whnf) | (refine brd_f (by first | assumption | omega) ?_; conv => whnf) | (refine ask (by first | assumption | omega) ?_; conv => whnf) | (refine fit64 (by omega) ?_; conv => whnf) | (refine fit (by simp only [kmin, kmax]; omega) ?_; conv => whnf) | (refine br_t (by assumption) ?_; conv => whnf) | (refine br_f (by assumption) ?_; conv => whnf) | (refine get_of (by assumption) ?_; conv => whnf) | (refine get_map (by assumption) ?_; conv => whnf) | (refine call_eq (hix) hC hasBody_68 ?_ ?_ ?_; kernel_rfl; kernel_rfl; conv => whnf) | (refine callq_eq (hix) hC hasBody_68 ?_ ?_ ?_; kernel_rfl; kernel_rfl; conv => whnf) | (refine draw_lex hE ?_ ?_; decide +kernel; conv => whnf) | (refine brd (fun h => ?_) (fun h => ?_) <;> conv => whnf) | (refine br (fun h => ?_) (fun h => ?_) <;> conv => whnf) | (refine ret_now hE ?_; conv => whnf) | (intro hlen; conv => whnf) | (refine seg_here ?_; conv => whnf) | (refine both ?_ ?_ <;> conv => whnf))
            refine up_freeze 4 (z := 3) (els := [exA (.mk k t ps)]) rfl ⟨exA_nr (.mk k t ps), trivial⟩ (next_drop [0, 2, 4] [] (.mk 5 0 [.mk k t ps], s) hI (Nat.lt_succ_self _) ?_)
            conv => whnf
            simp only [List.set_cons_zero, frz_sign (.mk k t ps), exA_one]
            rfl
          · have hix : Fn1 Try.prog 68 [.str [42, 43, 63], .int .u8 (63 : UInt8).toNat] (fun r => r = .int .i64 2) := idx_byte [42, 43, 63] 63
            conv => whnf
            repeat' (first | (refine brd_t (by first | assumption | omega) ?_; conv => whnf) | (refine brd_f (by first | assumption | omega) ?_; conv => whnf) | (refine ask (by first | assumption | omega) ?_; conv => whnf) | (refine fit64 (by omega) ?_; conv => whnf) | (refine fit (by simp only [kmin, kmax]; omega) ?_; conv => whnf) | (refine br_t (by assumption) ?_; conv => whnf) | (refine br_f (by assumption) ?_; conv => whnf) | (refine get_of (by assumption) ?_; conv => whnf) | (refine get_map (by assumption) ?_; conv => whnf) | (refine call_eq (hix) hC hasBody_68 ?_ ?_ ?_; kernel_rfl; kernel_rfl; conv => whnf) | (refine callq_eq (hix) hC hasBody_68 ?_ ?_ ?_; kernel_rfl; kernel_rfl; conv => whnf) | (refine draw_lex hE ?_ ?_; decide +kernel; conv => whnf) | (refine brd (fun h => ?_) (fun h => ?_) <;> conv => whnf) | (refine br (fun h => ?_) (fun h => ?_) <;> conv => whnf) | (refine ret_now hE ?_; conv => whnf) | (intro hlen; conv => whnf) | (refine seg_here ?_; conv => whnf) | (refine both ?_ ?_ <;> conv => whnf))
            refine up_freeze 4 (z := 3) (els := [exA (.mk k t ps)]) rfl ⟨exA_nr (.mk k t ps), trivial⟩ (next_drop [0, 2, 4] [] (.mk 6 0 [.mk k t ps], s) hI (Nat.lt_succ_self _) ?_)
            conv => whnf
            simp only [List.set_cons_zero, frz_sign (.mk k t ps), exA_one]
            rfl
        · rw [suf_cons_no hs] at hI
          subst hI
          have h3 : ¬ d = 42 ∧ ¬ d = 43 ∧ ¬ d = 63 := by unfold isSgn at hs; simpa [and_assoc] using hs
          have hix := idx_byte [42, 43, 63] d
          rw [idx_sgn, if_neg h3.1, if_neg h3.2.1, if_neg h3.2.2] at hix
          conv => whnf
          repeat' (first | (refine brd_t (by first | assumption | omega) ?_; conv => whnf) | (refine brd_f (by first | assumption | omega) ?_; conv => whnf) | (refine ask (by first | assumption | omega) ?_; conv => whnf) | (refine fit64 (by omega) ?_; conv => whnf) | (refine fit (by simp only [kmin, kmax]; omega) ?_; conv => whnf) | (refine br_t (by assumption) ?_; conv => whnf) | (refine br_f (by assumption) ?_; conv => whnf) | (refine get_of (by assumption) ?_; conv => whnf) | (refine get_map (by assumption) ?_; conv => whnf) | (refine call_eq (hix) hC hasBody_68 ?_ ?_ ?_; kernel_rfl; kernel_rfl; conv => whnf) | (refine callq_eq (hix) hC hasBody_68 ?_ ?_ ?_; kernel_rfl; kernel_rfl; conv => whnf) | (refine draw_lex hE ?_ ?_; decide +kernel; conv => whnf) | (refine brd (fun h => ?_) (fun h => ?_) <;> conv => whnf) | (refine br (fun h => ?_) (fun h => ?_) <;> conv => whnf) | (refine ret_now hE ?_; conv => whnf) | (intro hlen; conv => whnf) | (refine seg_here ?_; conv => whnf) | (refine both ?_ ?_ <;> conv => whnf))
          refine hret_low hE ?_
          conv => whnf
          exact ⟨rfl, rfl, rfl, rfl, nl_ex (.mk k t ps), rfl⟩
    · rw [ht] at htk
      conv => whnf
      repeat' (first | (refine brd_t (by first | assumption | omega) ?_; conv => whnf) | (refine brd_f (by first | assumption | omega) ?_; conv => whnf) | (refine ask (by first | assumption | omega) ?_; conv => whnf) | (refine fit64 (by omega) ?_; conv => whnf) | (refine fit (by simp only [kmin, kmax]; omega) ?_; conv => whnf) | (refine br_t (by assumption) ?_; conv => whnf) | (refine br_f (by assumption) ?_; conv => whnf) | (refine get_of (by assumption) ?_; conv => whnf) | (refine get_map (by assumption) ?_; conv => whnf) | (refine call_mth hf hC hasBody_26 0 rfl trivial (exA_nr _) rfl ⟨⟨trivial, trivial, trivial⟩, trivial⟩ ⟨⟨trivial, trivial, trivial⟩, trivial⟩ ?_; conv => whnf) | (refine call_mth htk hC hasBody_42 0 rfl ⟨trivial, trivial⟩ trivial rfl ⟨⟨trivial, trivial, trivial⟩, trivial⟩ ⟨⟨trivial, trivial, trivial⟩, trivial⟩ ?_; conv => whnf) | (refine draw_lex hE ?_ ?_; decide +kernel; conv => whnf) | (refine brd (fun h => ?_) (fun h => ?_) <;> conv => whnf) | (refine br (fun h => ?_) (fun h => ?_) <;> conv => whnf) | (refine ret_now hE ?_; conv => whnf) | (intro hlen; conv => whnf) | (refine seg_here ?_; conv => whnf) | (refine both ?_ ?_ <;> conv => whnf))
      generalize hR : suf x0 (takS sa 41) = R
      refine loopE (fun ((x, s) : Ex × List UInt8) => ⟨77, [(0, .ptr 0 0 0), (2, .ptr 2 0 0), (4, .ptr 3 0 0)], [some (.row 2 [.agg [.str s, .bool true]]), some (.hid vs [.ptr 0 0 0]), some (.row 3 [.agg [.int .i64 0, .int .i64 0, .nils]]), some (.row 3 [exA x])]⟩)
        (fun (x, s) => suf x s = R) (fun (_, s) => s.length) (x0, (takS sa 41)) hE ?_ ?_ hR ?_
      · kernel_rfl
      · first
          | exact at_keep [0, 2, 4] rfl
          | exact up_nl 3 rfl (at_keep [0, 2, 4] rfl)
      rintro ⟨x, s⟩ hI
      have hI : suf x s = R := hI
      obtain ⟨k, t, ps⟩ := x
      cases s with
      | nil =>
        have hI : (Ex.mk k t ps, []) = R := hI
        subst hI
        conv => whnf
        repeat' (first | (refine brd_t (by first | assumption | omega) ?_; conv => whnf) | (refine brd_f (by first | assumption | omega) ?_; conv => whnf) | (refine ask (by first | assumption | omega) ?_; conv => whnf) | (refine fit64 (by omega) ?_; conv => whnf) | (refine fit (by simp only [kmin, kmax]; omega) ?_; conv => whnf) | (refine br_t (by assumption) ?_; conv => whnf) | (refine br_f (by assumption) ?_; conv => whnf) | (refine get_of (by assumption) ?_; conv => whnf) | (refine get_map (by assumption) ?_; conv => whnf) | (refine brd_t rfl ?_; conv => whnf) | (refine draw_lex hE ?_ ?_; decide +kernel; conv => whnf) | (refine brd (fun h => ?_) (fun h => ?_) <;> conv => whnf) | (refine br (fun h => ?_) (fun h => ?_) <;> conv => whnf) | (refine ret_now hE ?_; conv => whnf) | (intro hlen; conv => whnf) | (refine seg_here ?_; conv => whnf) | (refine both ?_ ?_ <;> conv => whnf))
        refine hret_low hE ?_
        conv => whnf
        exact ⟨rfl, rfl, rfl, rfl, nl_ex (.mk k t ps), rfl⟩
      | cons d s =>
        have hn : ¬ (d :: s = []) := by simp
        have hn1 : Int.toNat 1 ≤ (d :: s).length := by simp
        have hn0 : Int.toNat 0 < (d :: s).length := by simp
        by_cases hs : isSgn d = true
        · rw [suf_cons_sgn hs] at hI
          have h3 : d = 42 ∨ d = 43 ∨ d = 63 := by unfold isSgn at hs; simpa [or_assoc] using hs
          rcases h3 with rfl | rfl | rfl
          · have hix : Fn1 Try.prog 68 [.str [42, 43, 63], .int .u8 (42 : UInt8).toNat] (fun r => r = .int .i64 0) := idx_byte [42, 43, 63] 42
            conv => whnf
            repeat' (first | (refine brd_t (by first | assumption | omega) ?_; conv => whnf) | (refine brd_f (by first | assumption | omega) ?_; conv => whnf) | (refine ask (by first | assumption | omega) ?_; conv => whnf) | (refine fit64 (by omega) ?_; conv => whnf) | (refine fit (by simp only [kmin, kmax]; omega) ?_; conv => whnf) | (refine br_t (by assumption) ?_; conv => whnf) | (refine br_f (by assumption) ?_; conv => whnf) | (refine get_of (by assumption) ?_; conv => whnf) | (refine get_map (by assumption) ?_; conv => whnf) | (refine call_eq (hix) hC hasBody_68 ?_ ?_ ?_; kernel_rfl; kernel_rfl; conv => whnf) | (refine callq_eq (hix) hC hasBody_68 ?_ ?_ ?_; kernel_rfl; kernel_rfl; conv => whnf) | (refine draw_lex hE ?_ ?_; decide +kernel; conv => whnf) | (refine brd (fun h => ?_) (fun h => ?_) <;> conv => whnf) | (refine br (fun h => ?_) (fun h => ?_) <;> conv => whnf) | (refine ret_now hE ?_; conv => whnf) | (intro hlen; conv => whnf) | (refine seg_here ?_; conv => whnf) | (refine both ?_ ?_ <;> conv => whnf))
            refine up_freeze 4 (z := 3) (els := [exA (.mk k t ps)]) rfl ⟨exA_nr (.mk k t ps), trivial⟩ (next_drop [0, 2, 4] [] (.mk 4 0 [.mk k t ps], s) hI (Nat.lt_succ_self _) ?_)
            conv => whnf
            simp only [List.set_cons_zero, frz_sign (.mk k t ps), exA_one]
            rfl
          · have hix : Fn1 Try.prog 68 [.str [42, 43, 63], .int .u8 (43 : UInt8).toNat] (fun r => r = .int .i64 1) := idx_byte [42, 43, 63] 43
            conv => whnf
            repeat' (first | (refine brd_t (by first | assumption | omega) ?_; conv => whnf) | (refine brd_f (by first | assumption | omega) ?_; conv => whnf) | (refine ask (by first | assumption | omega) ?_; conv => whnf) | (refine fit64 (by omega) ?_; conv => whnf) | (refine fit (by simp only [kmin, kmax]; omega) ?_; conv => whnf) | (refine br_t (by assumption) ?_; conv => whnf) | (refine br_f (by assumption) ?_; conv => whnf) | (refine get_of (by assumption) ?_; conv => whnf) | (refine get_map (by assumption) ?_; conv => whnf) | (refine call_eq (hix) hC hasBody_68 ?_ ?_ ?_; kernel_rfl; kernel_rfl; conv => whnf) | (refine callq_eq (hix) hC hasBody_68 ?_ ?_ ?_; kernel_rfl; kernel_rfl; conv => whnf) | (refine draw_lex hE ?_ ?_; decide +kernel; conv => whnf) | (refine brd (fun h => ?_) (fun h => ?_) <;> conv => whnf) | (refine br (fun h => ?_) (fun h => ?_) <;> conv => whnf) | (refine ret_now hE ?_; conv => whnf) | (intro hlen; conv => whnf) | (refine seg_here ?_; conv => whnf) | (refine both ?_ ?_ <;> conv => whnf))
            refine up_freeze 4 (z := 3) (els := [exA (.mk k t ps)]) rfl ⟨exA_nr (.mk k t ps), trivial⟩ (next_drop [0, 2, 4] [] (.mk 5 0 [.mk k t ps], s) hI (Nat.lt_succ_self _) ?_)
            conv => whnf
            simp only [List.set_cons_zero, frz_sign (.mk k t ps), exA_one]
            rfl
          · have hix : Fn1 Try.prog 68 [.str [42, 43, 63], .int .u8 (63 : UInt8).toNat] (fun r => r = .int .i64 2) := idx_byte [42, 43, 63] 63
            conv => whnf
            repeat' (first | (refine brd_t (by first | assumption | omega) ?_; conv => whnf) | (refine brd_f (by first | assumption | omega) ?_; conv => whnf) | (refine ask (by first | assumption | omega) ?_; conv => whnf) | (refine fit64 (by omega) ?_; conv => whnf) | (refine fit (by simp only [kmin, kmax]; omega) ?_; conv => whnf) | (refine br_t (by assumption) ?_; conv => whnf) | (refine br_f (by assumption) ?_; conv => whnf) | (refine get_of (by assumption) ?_; conv => whnf) | (refine get_map (by assumption) ?_; conv => whnf) | (refine call_eq (hix) hC hasBody_68 ?_ ?_ ?_; kernel_rfl; kernel_rfl; conv => whnf) | (refine callq_eq (hix) hC hasBody_68 ?_ ?_ ?_; kernel_rfl; kernel_rfl; conv => whnf) | (refine draw_lex hE ?_ ?_; decide +kernel; conv => whnf) | (refine brd (fun h => ?_) (fun h => ?_) <;> conv => whnf) | (refine br (fun h => ?_) (fun h => ?_) <;> conv => whnf) | (refine ret_now hE ?_; conv => whnf) | (intro hlen; conv => whnf) | (refine seg_here ?_; conv => whnf) | (refine both ?_ ?_ <;> conv => whnf))
            refine up_freeze 4 (z := 3) (els := [exA (.mk k t ps)]) rfl ⟨exA_nr (.mk k t ps), trivial⟩ (next_drop [0, 2, 4] [] (.mk 6 0 [.mk k t ps], s) hI (Nat.lt_succ_self _) ?_)
            conv => whnf
            simp only [List.set_cons_zero, frz_sign (.mk k t ps), exA_one]
            rfl
        · rw [suf_cons_no hs] at hI
          subst hI
          have h3 : ¬ d = 42 ∧ ¬ d = 43 ∧ ¬ d = 63 := by unfold isSgn at hs; simpa [and_assoc] using hs
          have hix := idx_byte [42, 43, 63] d
          rw [idx_sgn, if_neg h3.1, if_neg h3.2.1, if_neg h3.2.2] at hix
          conv => whnf
          repeat' (first | (refine brd_t (by first | assumption | omega) ?_; conv => whnf) | (refine brd_f (by first | assumption | omega) ?_; conv => whnf) | (refine ask (by first | assumption | omega) ?_; conv => whnf) | (refine fit64 (by omega) ?_; conv => whnf) | (refine fit (by simp only [kmin, kmax]; omega) ?_; conv => whnf) | (refine br_t (by assumption) ?_; conv => whnf) | (refine br_f (by assumption) ?_; conv => whnf) | (refine get_of (by assumption) ?_; conv => whnf) | (refine get_map (by assumption) ?_; conv => whnf) | (refine call_eq (hix) hC hasBody_68 ?_ ?_ ?_; kernel_rfl; kernel_rfl; conv => whnf) | (refine callq_eq (hix) hC hasBody_68 ?_ ?_ ?_; kernel_rfl; kernel_rfl; conv => whnf) | (refine draw_lex hE ?_ ?_; decide +kernel; conv => whnf) | (refine brd (fun h => ?_) (fun h => ?_) <;> conv => whnf) | (refine br (fun h => ?_) (fun h => ?_) <;> conv => whnf) | (refine ret_now hE ?_; conv => whnf) | (intro hlen; conv => whnf) | (refine seg_here ?_; conv => whnf) | (refine both ?_ ?_ <;> conv => whnf))
          refine hret_low hE ?_
          conv => whnf
          exact ⟨rfl, rfl, rfl, rfl, nl_ex (.mk k t ps), rfl⟩
  · conv => whnf
    repeat' (first | (refine brd_t (by first | assumption | omega) ?_; conv => whnf) | (refine brd_f (by first | assumption | omega) ?_; conv => whnf) | (refine ask (by first | assumption | omega) ?_; conv => whnf) | (refine fit64 (by omega) ?_; conv => whnf) | (refine fit (by simp only [kmin, kmax]; omega) ?_; conv => whnf) | (refine br_t (by assumption) ?_; conv => whnf) | (refine br_f (by assumption) ?_; conv => whnf) | (refine get_of (by assumption) ?_; conv => whnf) | (refine get_map (by assumption) ?_; conv => whnf) | (refine draw_lex hE ?_ ?_; decide +kernel; conv => whnf) | (refine brd (fun h => ?_) (fun h => ?_) <;> conv => whnf) | (refine br (fun h => ?_) (fun h => ?_) <;> conv => whnf) | (refine ret_now hE ?_; conv => whnf) | (intro hlen; conv => whnf) | (refine seg_here ?_; conv => whnf) | (refine both ?_ ?_ <;> conv => whnf))
    all_goals
      generalize hR : suf (.mk 0 0 []) s0 = R
      refine loopE (fun ((x, s) : Ex × List UInt8) => ⟨77, [(0, .ptr 0 0 0), (2, .ptr 2 0 0), (4, .ptr 3 0 0)], [some (.row 2 [.agg [.str s, .bool true]]), some (.hid vs [.ptr 0 0 0]), some (.row 3 [.agg [.int .i64 0, .int .i64 0, .nils]]), some (.row 3 [exA x])]⟩)
        (fun (x, s) => suf x s = R) (fun (_, s) => s.length) ((.mk 0 0 []), s0) hE ?_ ?_ hR ?_
      · kernel_rfl
      · first
          | exact at_keep [0, 2, 4] rfl
          | exact up_nl 3 rfl (at_keep [0, 2, 4] rfl)
      rintro ⟨x, s⟩ hI
      have hI : suf x s = R := hI
      obtain ⟨k, t, ps⟩ := x
      cases s with
      | nil =>
        have hI : (Ex.mk k t ps, []) = R := hI
        subst hI
        conv => whnf
        repeat' (first | (refine brd_t (by first | assumption | omega) ?_; conv => whnf) | (refine brd_f (by first | assumption | omega) ?_; conv => whnf) | (refine ask (by first | assumption | omega) ?_; conv => whnf) | (refine fit64 (by omega) ?_; conv => whnf) | (refine fit (by simp only [kmin, kmax]; omega) ?_; conv => whnf) | (refine br_t (by assumption) ?_; conv => whnf) | (refine br_f (by assumption) ?_; conv => whnf) | (refine get_of (by assumption) ?_; conv => whnf) | (refine get_map (by assumption) ?_; conv => whnf) | (refine brd_t rfl ?_; conv => whnf) | (refine draw_lex hE ?_ ?_; decide +kernel; conv => whnf) | (refine brd (fun h => ?_) (fun h => ?_) <;> conv => whnf) | (refine br (fun h => ?_) (fun h => ?_) <;> conv => whnf) | (refine ret_now hE ?_; conv => whnf) | (intro hlen; conv => whnf) | (refine seg_here ?_; conv => whnf) | (refine both ?_ ?_ <;> conv => whnf))
        refine hret_low hE ?_
        conv => whnf
        exact ⟨rfl, rfl, rfl, rfl, nl_ex (.mk k t ps), rfl⟩
      | cons d s =>
        have hn : ¬ (d :: s = []) := by simp
        have hn1 : Int.toNat 1 ≤ (d :: s).length := by simp
        have hn0 : Int.toNat 0 < (d :: s).length := by simp
        by_cases hs : isSgn d = true
        · rw [suf_cons_sgn hs] at hI
          have h3 : d = 42 ∨ d = 43 ∨ d = 63 := by unfold isSgn at hs; simpa [or_assoc] using hs
          rcases h3 with rfl | rfl | rfl
          · have hix : Fn1 Try.prog 68 [.str [42, 43, 63], .int .u8 (42 : UInt8).toNat] (fun r => r = .int .i64 0) := idx_byte [42, 43, 63] 42
            conv => whnf
            repeat' (first | (refine brd_t (by first | assumption | omega) ?_; conv => whnf) | (refine brd_f (by first | assumption | omega) ?_; conv => whnf) | (refine ask (by first | assumption | omega) ?_; conv => whnf) | (refine fit64 (by omega) ?_; conv => whnf) | (refine fit (by simp only [kmin, kmax]; omega) ?_; conv => whnf) | (refine br_t (by assumption) ?_; conv => whnf) | (refine br_f (by assumption) ?_; conv => whnf) | (refine get_of (by assumption) ?_; conv => whnf) | (refine get_map (by assumption) ?_; conv => whnf) | (refine call_eq (hix) hC hasBody_68 ?_ ?_ ?_; kernel_rfl; kernel_rfl; conv => whnf) | (refine callq_eq (hix) hC hasBody_68 ?_ ?_ ?_; kernel_rfl; kernel_rfl; conv => whnf) | (refine draw_lex hE ?_ ?_; decide +kernel; conv => whnf) | (refine brd (fun h => ?_) (fun h => ?_) <;> conv => whnf) | (refine br (fun h => ?_) (fun h => ?_) <;> conv => whnf) | (refine ret_now hE ?_; conv => whnf) | (intro hlen; conv => whnf) | (refine seg_here ?_; conv => whnf) | (refine both ?_ ?_ <;> conv => whnf))
            refine up_freeze 4 (z := 3) (els := [exA (.mk k t ps)]) rfl ⟨exA_nr (.mk k t ps), trivial⟩ (next_drop [0, 2, 4] [] (.mk 4 0 [.mk k t ps], s) hI (Nat.lt_succ_self _) ?_)
            conv => whnf
            simp only [List.set_cons_zero, frz_sign (.mk k t ps), exA_one]
            rfl
          · have hix : Fn1 Try.prog 68 [.str [42, 43, 63], .int .u8 (43 : UInt8).toNat] (fun r => r = .int .i64 1) := idx_byte [42, 43, 63] 43
            conv => whnf
            repeat' (first | (refine brd_t (by first | assumption | omega) ?_; conv => whnf) | (refine brd_f (by first | assumption | omega) ?_; conv => whnf) | (refine ask (by first | assumption | omega) ?_; conv => whnf) | (refine fit64 (by omega) ?_; conv => whnf) | (refine fit (by simp only [kmin, kmax]; omega) ?_; conv => whnf) | (refine br_t (by assumption) ?_; conv => whnf) | (refine br_f (by assumption) ?_; conv => whnf) | (refine get_of (by assumption) ?_; conv => whnf) | (refine get_map (by assumption) ?_; conv => whnf) | (refine call_eq (hix) hC hasBody_68 ?_ ?_ ?_; kernel_rfl; kernel_rfl; conv => whnf) | (refine callq_eq (hix) hC hasBody_68 ?_ ?_ ?_; kernel_rfl; kernel_rfl; conv => whnf) | (refine draw_lex hE ?_ ?_; decide +kernel; conv => whnf) | (refine brd (fun h => ?_) (fun h => ?_) <;> conv => whnf) | (refine br (fun h => ?_) (fun h => ?_) <;> conv => whnf) | (refine ret_now hE ?_; conv => whnf) | (intro hlen; conv => whnf) | (refine seg_here ?_; conv => whnf) | (refine both ?_ ?_ <;> conv => whnf))
            refine up_freeze 4 (z := 3) (els := [exA (.mk k t ps)]) rfl ⟨exA_nr (.mk k t ps), trivial⟩ (next_drop [0, 2, 4] [] (.mk 5 0 [.mk k t ps], s) hI (Nat.lt_succ_self _) ?_)
            conv => whnf
            simp only [List.set_cons_zero, frz_sign (.mk k t ps), exA_one]
            rfl
          · have hix : Fn1 Try.prog 68 [.str [42, 43, 63], .int .u8 (63 : UInt8).toNat] (fun r => r = .int .i64 2) := idx_byte [42, 43, 63] 63
            conv => whnf
            repeat' (first | (refine brd_t (by first | assumption | omega) ?_; conv => whnf) | (refine brd_f (by first | assumption | omega) ?_; conv => whnf) | (refine ask (by first | assumption | omega) ?_; conv => whnf) | (refine fit64 (by omega) ?_; conv => whnf) | (refine fit (by simp only [kmin, kmax]; omega) ?_; conv => whnf) | (refine br_t (by assumption) ?_; conv => whnf) | (refine br_f (by assumption) ?_; conv => whnf) | (refine get_of (by assumption) ?_; conv => whnf) | (refine get_map (by assumption) ?_; conv => whnf) | (refine call_eq (hix) hC hasBody_68 ?_ ?_ ?_; kernel_rfl; kernel_rfl; conv => whnf) | (refine callq_eq (hix) hC hasBody_68 ?_ ?_ ?_; kernel_rfl; kernel_rfl; conv => whnf) | (refine draw_lex hE ?_ ?_; decide +kernel; conv => whnf) | (refine brd (fun h => ?_) (fun h => ?_) <;> conv => whnf) | (refine br (fun h => ?_) (fun h => ?_) <;> conv => whnf) | (refine ret_now hE ?_; conv => whnf) | (intro hlen; conv => whnf) | (refine seg_here ?_; conv => whnf) | (refine both ?_ ?_ <;> conv => whnf))
            refine up_freeze 4 (z := 3) (els := [exA (.mk k t ps)]) rfl ⟨exA_nr (.mk k t ps), trivial⟩ (next_drop [0, 2, 4] [] (.mk 6 0 [.mk k t ps], s) hI (Nat.lt_succ_self _) ?_)
            conv => whnf
            simp only [List.set_cons_zero, frz_sign (.mk k t ps), exA_one]
            rfl
        · rw [suf_cons_no hs] at hI
          subst hI
          have h3 : ¬ d = 42 ∧ ¬ d = 43 ∧ ¬ d = 63 := by unfold isSgn at hs; simpa [and_assoc] using hs
          have hix := idx_byte [42, 43, 63] d
          rw [idx_sgn, if_neg h3.1, if_neg h3.2.1, if_neg h3.2.2] at hix
          conv => whnf
          repeat' (first | (refine brd_t (by first | assumption | omega) ?_; conv => whnf) | (refine brd_f (by first | assumption | omega) ?_; conv => whnf) | (refine ask (by first | assumption | omega) ?_; conv => whnf) | (refine fit64 (by omega) ?_; conv => whnf) | (refine fit (by simp only [kmin, kmax]; omega) ?_; conv => whnf) | (refine br_t (by assumption) ?_; conv => whnf) | (refine br_f (by assumption) ?_; conv => whnf) | (refine get_of (by assumption) ?_; conv => whnf) | (refine get_map (by assumption) ?_; conv => whnf) | (refine call_eq (hix) hC hasBody_68 ?_ ?_ ?_; kernel_rfl; kernel_rfl; conv => whnf) | (refine callq_eq (hix) hC hasBody_68 ?_ ?_ ?_; kernel_rfl; kernel_rfl; conv => whnf) | (refine draw_lex hE ?_ ?_; decide +kernel; conv => whnf) | (refine brd (fun h => ?_) (fun h => ?_) <;> conv => whnf) | (refine br (fun h => ?_) (fun h => ?_) <;> conv => whnf) | (refine ret_now hE ?_; conv => whnf) | (intro hlen; conv => whnf) | (refine seg_here ?_; conv => whnf) | (refine both ?_ ?_ <;> conv => whnf))
          refine hret_low hE ?_
          conv => whnf
          exact ⟨rfl, rfl, rfl, rfl, nl_ex (.mk k t ps), rfl⟩

end Go.Proofs.Yteappcclfjafeaa
