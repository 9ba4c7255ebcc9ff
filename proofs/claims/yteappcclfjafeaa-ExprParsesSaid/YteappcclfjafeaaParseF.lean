/- The document's exprRead, walked. No conditions. -/
import Derived.Test.YteappcclfjafeaaParseE
import Derived.Test.YteappcclfjafeaaCallTwo
set_option linter.unusedSimpArgs false
set_option linter.unusedVariables false
set_option maxRecDepth 100000
namespace Go.Proofs.Yteappcclfjafeaa
open Go.RowKit

theorem drop_at {s : List UInt8} {k : Nat} {c : UInt8} (h : s[k]? = some c) : s.drop k = c :: s.drop (k + 1) := by
  obtain ⟨hlt, rfl⟩ := List.getElem?_eq_some_iff.1 h
  exact List.drop_eq_getElem_cons hlt
theorem nr_all (all : Option Ex) : nrL [allV all] := by cases all <;> exact ⟨trivial, trivial⟩
theorem nr_now {x : Ex} : nrL [V.agg (exG x)] := ⟨⟨trivial, trivial, trivial, trivial⟩, trivial⟩
def dV (s : List UInt8) : DR → V
  | none => .tup [exA (.mk 0 0 []), .int .i64 0, .bool false]
  | some (x, t) => .tup [exA x, .int .i64 ((s.length - t.length : Nat) : Int), .bool true]
theorem nl_dv (x : Ex) (i : Int) (b : Bool) : (V.tup [exA x, .int .i64 i, .bool b]).nl = .tup [exA x, .int .i64 i, .bool b] := by simp only [V.nl, nlL, nl_ex]
theorem kill_all (id : Nat) (all : Option Ex) : killL id [allV all] = [allV all] := kill_nrL _ (nr_all all)
theorem kill_now (id : Nat) (x : Ex) : killL id [V.agg (exG x)] = [.agg (exG x)] := kill_nrL _ nr_now
theorem frz_all (id : Nat) (els : List V) (all : Option Ex) : frzL id els [allV all] = [allV all] := frz_nrL _ _ (nr_all all)
theorem frz_now (id : Nat) (els : List V) (x : Ex) : frzL id els [V.agg (exG x)] = [.agg (exG x)] := frz_nrL _ _ nr_now
theorem dv_at {s : List UInt8} {k : Nat} (hk : k ≤ s.length) (x : Ex) : dV s (some (x, s.drop k)) = .tup [exA x, .int .i64 (k : Nat), .bool true] := by
  unfold dV
  simp only [List.length_drop]
  rw [show s.length - (s.length - k) = k by omega]
set_option maxHeartbeats 16000000 in
theorem ref_read : ∀ (n : Nat) (s : List UInt8) (k0 : Nat), (s.drop k0).length < n → s.length ≤ 40 → k0 ≤ s.length → Fn1 Try.prog 28 [.str s, .int .i64 (k0 : Nat)] (fun r => r = dV s (dAlt n (s.drop k0))) := by
  intro n
  induction n with
  | zero => intro s k0 h; exact absurd h (Nat.not_lt_zero _)
  | succ n ih =>
  intro s k0 hn h40 hk0
  obtain ⟨R, hR⟩ : ∃ R, runD (dAlt n) (s.drop k0).length (s.drop k0) (.mk 2 0 []) none = R := ⟨_, rfl⟩
  have hRd : dAlt (n + 1) (s.drop k0) = R := hR
  rw [hRd]
  have hl0 : (s.drop k0).length = s.length - k0 := by simp
  rw [hl0] at hn hR
  have h660 : szE (.mk 2 0 []) + szO none + 16 * (s.length - k0) ≤ 660 := by rw [szE_void]; simp only [szO]; omega
  refine fn1_nl ?_
  refine fn1E (T := Try.tt) Try.func28 rfl tt_all follows_all ?_ ?_ fun C hC hE => ?_
  · kernel_rfl
  · exact Nat.le_of_ble_eq_true (by kernel_rfl)
  conv => whnf
  repeat' (first | (refine brd_t (by first | assumption | omega) ?_; conv => whnf) | (refine brd_f (by first | assumption | omega) ?_; conv => whnf) | (refine ask (by first | assumption | omega) ?_; conv => whnf) | (refine fit64 (by omega) ?_; conv => whnf) | (refine fit (by simp only [kmin, kmax]; omega) ?_; conv => whnf) | (refine br_t (by assumption) ?_; conv => whnf) | (refine br_f (by assumption) ?_; conv => whnf) | (refine get_of (by assumption) ?_; conv => whnf) | (refine get_map (by assumption) ?_; conv => whnf) | (refine draw_lex hE ?_ ?_; decide +kernel; conv => whnf) | (refine brd (fun h => ?_) (fun h => ?_) <;> conv => whnf) | (refine br (fun h => ?_) (fun h => ?_) <;> conv => whnf) | (refine ret_now hE ?_; conv => whnf) | (intro hlen; conv => whnf) | (refine seg_here ?_; conv => whnf) | (refine both ?_ ?_ <;> conv => whnf))
  refine loopE (fun ((m, k, now, all) : Nat × Nat × Ex × Option Ex) => ⟨117, [(0, .str s), (1, .int .i64 (k : Nat)), (4, .ptr 0 0 0), (7, .ptr 1 0 0), (8, .ptr 2 0 0), (9, .fn 46 [.ptr 2 0 0, .ptr 1 0 0])], [some (.row 3 [.agg [.int .i64 0, .int .i64 0, .nils]]), some (.row 3 [.agg (exG now)]), some (.row 1 [allV all])]⟩)
    (fun (m, k, now, all) => k0 ≤ k ∧ k ≤ s.length ∧ s.length - k ≤ m ∧ szE now + szO all + 16 * (s.length - k) ≤ 660 ∧ runD (dAlt n) m (s.drop k) now all = R) (fun (m, _) => m) (s.length - k0, k0, .mk 2 0 [], none) hE ?_ ?_ ⟨Nat.le_refl _, hk0, Nat.le_refl _, h660, hR⟩ ?_
  · kernel_rfl
  · exact up_nl 1 rfl (at_keep [0, 1, 4, 7, 8, 9] rfl)
  rintro ⟨m, k, now, all⟩ ⟨hkk, hk, hm, hsz, hI⟩
  have hkk : k0 ≤ k := hkk
  have hk : k ≤ s.length := hk
  have hm : s.length - k ≤ m := hm
  have hsz : szE now + szO all + 16 * (s.length - k) ≤ 660 := hsz
  have hI : runD (dAlt n) m (s.drop k) now all = R := hI
  have hnz : szE now ≤ 1048576 := by omega
  have haz : ∀ a, all = some a → szE a ≤ 1048576 := by intro a ha; rw [ha] at hsz; simp only [szO] at hsz; omega
  have hfz := flu_sz all now
  by_cases hlt : k < s.length
  · obtain ⟨c, hx⟩ : ∃ c, s[k]? = some c := ⟨_, List.getElem?_eq_getElem hlt⟩
    have hcd : s.drop k = c :: s.drop (k + 1) := drop_at hx
    have hc256 := c.toNat_lt
    cases m with
    | zero => omega
    | succ m =>
    rw [hcd] at hI
    by_cases h41 : c = 41
    · rw [runD, if_pos h41, ← hcd] at hI
      have hq41 : c.toNat = 41 := by rw [h41]; rfl
      rw [← hI, dv_at hk]
      conv => whnf
      repeat' (first | (refine brd_t (by first | assumption | omega) ?_; conv => whnf) | (refine brd_f (by first | assumption | omega) ?_; conv => whnf) | (refine ask (by first | assumption | omega) ?_; conv => whnf) | (refine fit64 (by omega) ?_; conv => whnf) | (refine fit (by simp only [kmin, kmax]; omega) ?_; conv => whnf) | (refine br_t (by assumption) ?_; conv => whnf) | (refine br_f (by assumption) ?_; conv => whnf) | (refine get_of (by assumption) ?_; conv => whnf) | (refine get_map (by assumption) ?_; conv => whnf) | (refine get_of hx ?_; conv => whnf) | (refine call_two (h_flush all now haz hnz) hC hasBody_46 2 1 (by decide) rfl trivial trivial rfl rfl (nr_all all) (nr_all _) nr_now nr_now ?_; conv => whnf) | (refine draw_lex hE ?_ ?_; decide +kernel; conv => whnf) | (refine brd (fun h => ?_) (fun h => ?_) <;> conv => whnf) | (refine br (fun h => ?_) (fun h => ?_) <;> conv => whnf) | (refine ret_now hE ?_; conv => whnf) | (intro hlen; conv => whnf) | (refine seg_here ?_; conv => whnf) | (refine both ?_ ?_ <;> conv => whnf))
      all_goals exact ⟨rfl, nl_dv _ _ _⟩
    · have hq41 : ¬ c.toNat = 41 := fun e => h41 (UInt8.toNat_inj.1 e)
      by_cases h124 : c = 124
      · rw [runD, if_neg h41, if_pos h124] at hI
        have hq124 : c.toNat = 124 := by rw [h124]; rfl
        conv => whnf
        repeat' (first | (refine brd_t (by first | assumption | omega) ?_; conv => whnf) | (refine brd_f (by first | assumption | omega) ?_; conv => whnf) | (refine ask (by first | assumption | omega) ?_; conv => whnf) | (refine fit64 (by omega) ?_; conv => whnf) | (refine fit (by simp only [kmin, kmax]; omega) ?_; conv => whnf) | (refine br_t (by assumption) ?_; conv => whnf) | (refine br_f (by assumption) ?_; conv => whnf) | (refine get_of (by assumption) ?_; conv => whnf) | (refine get_map (by assumption) ?_; conv => whnf) | (refine get_of hx ?_; conv => whnf) | (refine call_two (h_flush all now haz hnz) hC hasBody_46 2 1 (by decide) rfl trivial trivial rfl rfl (nr_all all) (nr_all _) nr_now nr_now ?_; conv => whnf) | (refine draw_lex hE ?_ ?_; decide +kernel; conv => whnf) | (refine brd (fun h => ?_) (fun h => ?_) <;> conv => whnf) | (refine br (fun h => ?_) (fun h => ?_) <;> conv => whnf) | (refine ret_now hE ?_; conv => whnf) | (intro hlen; conv => whnf) | (refine seg_here ?_; conv => whnf) | (refine both ?_ ?_ <;> conv => whnf))
        refine up_nl 1 rfl (next_keep [0, 1, 4, 7, 8, 9] (m, k + 1, .mk 2 0 [], some (flu all now)) ⟨?_, ?_, ?_, ?_, hI⟩ (Nat.lt_succ_self m) ?_)
        rotate_left 4
        · conv => whnf
          rfl
        · show k0 ≤ k + 1; omega
        · show k + 1 ≤ s.length; omega
        · show s.length - (k + 1) ≤ m; omega
        · show szE (.mk 2 0 []) + szE (flu all now) + 16 * (s.length - (k + 1)) ≤ 660
          rw [szE_void]; omega
      · have hq124 : ¬ c.toNat = 124 := fun e => h124 (UInt8.toNat_inj.1 e)
        rw [runD, if_neg h41, if_neg h124] at hI
        have hld : (s.drop (k + 1)).length = s.length - (k + 1) := by simp
        by_cases hlow : isLow c = true
        · have hlo : 97 ≤ c.toNat ∧ c.toNat ≤ 104 := by unfold isLow at hlow; simpa using hlow
          conv => whnf
          repeat' (first | (refine brd_t (by first | assumption | omega) ?_; conv => whnf) | (refine brd_f (by first | assumption | omega) ?_; conv => whnf) | (refine ask (by first | assumption | omega) ?_; conv => whnf) | (refine fit64 (by omega) ?_; conv => whnf) | (refine fit (by simp only [kmin, kmax]; omega) ?_; conv => whnf) | (refine br_t (by assumption) ?_; conv => whnf) | (refine br_f (by assumption) ?_; conv => whnf) | (refine get_of (by assumption) ?_; conv => whnf) | (refine get_map (by assumption) ?_; conv => whnf) | (refine get_of hx ?_; conv => whnf) | (refine draw_lex hE ?_ ?_; decide +kernel; conv => whnf) | (refine brd (fun h => ?_) (fun h => ?_) <;> conv => whnf) | (refine br (fun h => ?_) (fun h => ?_) <;> conv => whnf) | (refine ret_now hE ?_; conv => whnf) | (intro hlen; conv => whnf) | (refine seg_here ?_; conv => whnf) | (refine both ?_ ?_ <;> conv => whnf))
          have hR2 : R = runD (dAlt n) m (suf (.mk 1 ((c.toNat : Int) - 97) []) (s.drop (k + 1))).2 (jnd 2 now (suf (.mk 1 ((c.toNat : Int) - 97) []) (s.drop (k + 1))).1) all := by rw [← hI, baseD, if_pos hlow]
          have hiz := itemD_sz (g := dAlt n) (dalt_sz n (s.drop (k + 1))) (c := c) (x := .mk 1 ((c.toNat : Int) - 97) []) (t := s.drop (k + 1)) (by rw [baseD, if_pos hlow])
          have hsl := hiz.2.length_le
          obtain ⟨hiz, _⟩ := hiz
          generalize hRs : suf (.mk 1 ((c.toNat : Int) - 97) []) (s.drop (k + 1)) = Rs at *
          refine loopE (fun ((j, x) : Nat × Ex) => ⟨117, [(0, .str s), (1, .int .i64 (j : Nat)), (4, .ptr 0 0 0), (7, .ptr 1 0 0), (8, .ptr 2 0 0), (9, .fn 46 [.ptr 2 0 0, .ptr 1 0 0]), (11, .ptr 3 0 0)], [some (.row 3 [.agg [.int .i64 0, .int .i64 0, .nils]]), some (.row 3 [.agg (exG now)]), some (.row 1 [allV all]), some (.row 3 [exA x])]⟩)
            (fun (j, x) => j ≤ s.length ∧ suf x (s.drop j) = Rs) (fun (j, _) => s.length - j) (k + 1, (.mk 1 ((c.toNat : Int) - 97) [])) hE ?_ ?_ ⟨hlt, hRs⟩ ?_
          · kernel_rfl
          · refine up_nl 3 rfl (at_keep [0, 1, 4, 7, 8, 9, 11] ?_)
            conv => whnf
            rfl
          rintro ⟨j, x⟩ ⟨hj, hI⟩
          have hj : j ≤ s.length := hj
          have hI : suf x (s.drop j) = Rs := hI
          obtain ⟨xk, xt, xp⟩ := x
          have hFin : suf (.mk xk xt xp) (s.drop j) = (.mk xk xt xp, s.drop j) → (.mk xk xt xp, s.drop j) = Rs := fun e => by rw [← hI, e]
          by_cases hjl : j < s.length
          · obtain ⟨d, hd⟩ : ∃ d, s[j]? = some d := ⟨_, List.getElem?_eq_getElem hjl⟩
            have hdd : s.drop j = d :: s.drop (j + 1) := drop_at hd
            have hd256 := d.toNat_lt
            by_cases hs : isSgn d = true
            · rw [hdd, suf_cons_sgn hs] at hI
              have h3 : d = 42 ∨ d = 43 ∨ d = 63 := by unfold isSgn at hs; simpa [or_assoc] using hs
              rcases h3 with h3 | h3 | h3
              · have hq : d.toNat = 42 := by rw [h3]; rfl
                rw [h3] at hI
                conv => whnf
                repeat' (first | (refine brd_t (by first | assumption | omega) ?_; conv => whnf) | (refine brd_f (by first | assumption | omega) ?_; conv => whnf) | (refine ask (by first | assumption | omega) ?_; conv => whnf) | (refine fit64 (by omega) ?_; conv => whnf) | (refine fit (by simp only [kmin, kmax]; omega) ?_; conv => whnf) | (refine br_t (by assumption) ?_; conv => whnf) | (refine br_f (by assumption) ?_; conv => whnf) | (refine get_of (by assumption) ?_; conv => whnf) | (refine get_map (by assumption) ?_; conv => whnf) | (refine get_of hd ?_; conv => whnf) | (refine draw_lex hE ?_ ?_; decide +kernel; conv => whnf) | (refine brd (fun h => ?_) (fun h => ?_) <;> conv => whnf) | (refine br (fun h => ?_) (fun h => ?_) <;> conv => whnf) | (refine ret_now hE ?_; conv => whnf) | (intro hlen; conv => whnf) | (refine seg_here ?_; conv => whnf) | (refine both ?_ ?_ <;> conv => whnf))
                refine up_freeze 4 (z := 3) (els := [exA (.mk xk xt xp)]) rfl ⟨exA_nr (.mk xk xt xp), trivial⟩ (next_drop [0, 1, 4, 7, 8, 9, 11] [] (j + 1, .mk 4 0 [.mk xk xt xp]) ⟨hjl, hI⟩ (show s.length - (j + 1) < s.length - j by omega) ?_)
                conv => whnf
                simp only [List.set_cons_zero, frz_sign (.mk xk xt xp), exA_one, frz_all, frz_now]
                rfl
              · have hq : d.toNat = 43 := by rw [h3]; rfl
                rw [h3] at hI
                conv => whnf
                repeat' (first | (refine brd_t (by first | assumption | omega) ?_; conv => whnf) | (refine brd_f (by first | assumption | omega) ?_; conv => whnf) | (refine ask (by first | assumption | omega) ?_; conv => whnf) | (refine fit64 (by omega) ?_; conv => whnf) | (refine fit (by simp only [kmin, kmax]; omega) ?_; conv => whnf) | (refine br_t (by assumption) ?_; conv => whnf) | (refine br_f (by assumption) ?_; conv => whnf) | (refine get_of (by assumption) ?_; conv => whnf) | (refine get_map (by assumption) ?_; conv => whnf) | (refine get_of hd ?_; conv => whnf) | (refine draw_lex hE ?_ ?_; decide +kernel; conv => whnf) | (refine brd (fun h => ?_) (fun h => ?_) <;> conv => whnf) | (refine br (fun h => ?_) (fun h => ?_) <;> conv => whnf) | (refine ret_now hE ?_; conv => whnf) | (intro hlen; conv => whnf) | (refine seg_here ?_; conv => whnf) | (refine both ?_ ?_ <;> conv => whnf))
                refine up_freeze 4 (z := 3) (els := [exA (.mk xk xt xp)]) rfl ⟨exA_nr (.mk xk xt xp), trivial⟩ (next_drop [0, 1, 4, 7, 8, 9, 11] [] (j + 1, .mk 5 0 [.mk xk xt xp]) ⟨hjl, hI⟩ (show s.length - (j + 1) < s.length - j by omega) ?_)
                conv => whnf
                simp only [List.set_cons_zero, frz_sign (.mk xk xt xp), exA_one, frz_all, frz_now]
                rfl
              · have hq : d.toNat = 63 := by rw [h3]; rfl
                rw [h3] at hI
                conv => whnf
                repeat' (first | (refine brd_t (by first | assumption | omega) ?_; conv => whnf) | (refine brd_f (by first | assumption | omega) ?_; conv => whnf) | (refine ask (by first | assumption | omega) ?_; conv => whnf) | (refine fit64 (by omega) ?_; conv => whnf) | (refine fit (by simp only [kmin, kmax]; omega) ?_; conv => whnf) | (refine br_t (by assumption) ?_; conv => whnf) | (refine br_f (by assumption) ?_; conv => whnf) | (refine get_of (by assumption) ?_; conv => whnf) | (refine get_map (by assumption) ?_; conv => whnf) | (refine get_of hd ?_; conv => whnf) | (refine draw_lex hE ?_ ?_; decide +kernel; conv => whnf) | (refine brd (fun h => ?_) (fun h => ?_) <;> conv => whnf) | (refine br (fun h => ?_) (fun h => ?_) <;> conv => whnf) | (refine ret_now hE ?_; conv => whnf) | (intro hlen; conv => whnf) | (refine seg_here ?_; conv => whnf) | (refine both ?_ ?_ <;> conv => whnf))
                refine up_freeze 4 (z := 3) (els := [exA (.mk xk xt xp)]) rfl ⟨exA_nr (.mk xk xt xp), trivial⟩ (next_drop [0, 1, 4, 7, 8, 9, 11] [] (j + 1, .mk 6 0 [.mk xk xt xp]) ⟨hjl, hI⟩ (show s.length - (j + 1) < s.length - j by omega) ?_)
                conv => whnf
                simp only [List.set_cons_zero, frz_sign (.mk xk xt xp), exA_one, frz_all, frz_now]
                rfl
            · have h3 : ¬ d = 42 ∧ ¬ d = 43 ∧ ¬ d = 63 := by unfold isSgn at hs; simpa [and_assoc] using hs
              have hq1 : ¬ d.toNat = 42 := fun e => h3.1 (UInt8.toNat_inj.1 e)
              have hq2 : ¬ d.toNat = 43 := fun e => h3.2.1 (UInt8.toNat_inj.1 e)
              have hq3 : ¬ d.toNat = 63 := fun e => h3.2.2 (UInt8.toNat_inj.1 e)
              have hF := hFin (by rw [hdd, suf_cons_no hs])
              subst hF
              simp only [List.length_drop] at hiz hsl hR2
              have hjw := joined_walk 2 now (.mk xk xt xp) (by omega) (by omega)
              conv => whnf
              repeat' (first | (refine brd_t (by first | assumption | omega) ?_; conv => whnf) | (refine brd_f (by first | assumption | omega) ?_; conv => whnf) | (refine ask (by first | assumption | omega) ?_; conv => whnf) | (refine fit64 (by omega) ?_; conv => whnf) | (refine fit (by simp only [kmin, kmax]; omega) ?_; conv => whnf) | (refine br_t (by assumption) ?_; conv => whnf) | (refine br_f (by assumption) ?_; conv => whnf) | (refine get_of (by assumption) ?_; conv => whnf) | (refine get_map (by assumption) ?_; conv => whnf) | (refine get_of hd ?_; conv => whnf) | (refine call_eq (hjw) hC hasBody_47 ?_ ?_ ?_; kernel_rfl; kernel_rfl; conv => whnf) | (refine callq_eq (hjw) hC hasBody_47 ?_ ?_ ?_; kernel_rfl; kernel_rfl; conv => whnf) | (refine draw_lex hE ?_ ?_; decide +kernel; conv => whnf) | (refine brd (fun h => ?_) (fun h => ?_) <;> conv => whnf) | (refine br (fun h => ?_) (fun h => ?_) <;> conv => whnf) | (refine ret_now hE ?_; conv => whnf) | (intro hlen; conv => whnf) | (refine seg_here ?_; conv => whnf) | (refine both ?_ ?_ <;> conv => whnf))
              refine next_drop [0, 1, 4, 7, 8, 9] [3] (m, j, jnd 2 now (.mk xk xt xp), all) ⟨?_, hj, ?_, ?_, hR2.symm⟩ (Nat.lt_succ_self m) ?_
              · show k0 ≤ j; omega
              · show s.length - j ≤ m; omega
              · have := jnd_sz 2 now (.mk xk xt xp)
                show szE (jnd 2 now (.mk xk xt xp)) + szO all + 16 * (s.length - j) ≤ 660
                omega
              · conv => whnf
                rw [kill_all]
                rfl
          · have hjn : j = s.length := by omega
            have hF := hFin (by rw [List.drop_eq_nil_of_le (by omega)]; simp [suf])
            subst hF
            simp only [List.length_drop] at hiz hsl hR2
            have hjw := joined_walk 2 now (.mk xk xt xp) (by omega) (by omega)
            conv => whnf
            repeat' (first | (refine brd_t (by first | assumption | omega) ?_; conv => whnf) | (refine brd_f (by first | assumption | omega) ?_; conv => whnf) | (refine ask (by first | assumption | omega) ?_; conv => whnf) | (refine fit64 (by omega) ?_; conv => whnf) | (refine fit (by simp only [kmin, kmax]; omega) ?_; conv => whnf) | (refine br_t (by assumption) ?_; conv => whnf) | (refine br_f (by assumption) ?_; conv => whnf) | (refine get_of (by assumption) ?_; conv => whnf) | (refine get_map (by assumption) ?_; conv => whnf) | (refine call_eq (hjw) hC hasBody_47 ?_ ?_ ?_; kernel_rfl; kernel_rfl; conv => whnf) | (refine callq_eq (hjw) hC hasBody_47 ?_ ?_ ?_; kernel_rfl; kernel_rfl; conv => whnf) | (refine draw_lex hE ?_ ?_; decide +kernel; conv => whnf) | (refine brd (fun h => ?_) (fun h => ?_) <;> conv => whnf) | (refine br (fun h => ?_) (fun h => ?_) <;> conv => whnf) | (refine ret_now hE ?_; conv => whnf) | (intro hlen; conv => whnf) | (refine seg_here ?_; conv => whnf) | (refine both ?_ ?_ <;> conv => whnf))
            refine next_drop [0, 1, 4, 7, 8, 9] [3] (m, j, jnd 2 now (.mk xk xt xp), all) ⟨?_, hj, ?_, ?_, hR2.symm⟩ (Nat.lt_succ_self m) ?_
            · show k0 ≤ j; omega
            · show s.length - j ≤ m; omega
            · have := jnd_sz 2 now (.mk xk xt xp)
              show szE (jnd 2 now (.mk xk xt xp)) + szO all + 16 * (s.length - j) ≤ 660
              omega
            · conv => whnf
              rw [kill_all]
              rfl

        · have hlo : ¬ (97 ≤ c.toNat ∧ c.toNat ≤ 104) := by unfold isLow at hlow; simpa using hlow
          by_cases h40c : c = 40
          · have hq40 : c.toNat = 40 := by rw [h40c]; rfl
            have ih' : Fn1 Try.prog 28 [.str s, .int .i64 ((k : Int) + 1)] (fun r => r = dV s (dAlt n (s.drop (k + 1)))) := ih s (k + 1) (by omega) h40 hlt
            have hdz := dalt_sz n (s.drop (k + 1))
            cases hda : dAlt n (s.drop (k + 1)) with
            | none =>
              rw [hda] at ih'
              rw [baseD, if_neg hlow, if_pos h40c, hda] at hI
              rw [← hI]
              conv => whnf
              repeat' (first | (refine brd_t (by first | assumption | omega) ?_; conv => whnf) | (refine brd_f (by first | assumption | omega) ?_; conv => whnf) | (refine ask (by first | assumption | omega) ?_; conv => whnf) | (refine fit64 (by omega) ?_; conv => whnf) | (refine fit (by simp only [kmin, kmax]; omega) ?_; conv => whnf) | (refine br_t (by assumption) ?_; conv => whnf) | (refine br_f (by assumption) ?_; conv => whnf) | (refine get_of (by assumption) ?_; conv => whnf) | (refine get_map (by assumption) ?_; conv => whnf) | (refine get_of hx ?_; conv => whnf) | (refine call_eq (ih') hC hasBody_28 ?_ ?_ ?_; kernel_rfl; kernel_rfl; conv => whnf) | (refine callq_eq (ih') hC hasBody_28 ?_ ?_ ?_; kernel_rfl; kernel_rfl; conv => whnf) | (refine draw_lex hE ?_ ?_; decide +kernel; conv => whnf) | (refine brd (fun h => ?_) (fun h => ?_) <;> conv => whnf) | (refine br (fun h => ?_) (fun h => ?_) <;> conv => whnf) | (refine ret_now hE ?_; conv => whnf) | (intro hlen; conv => whnf) | (refine seg_here ?_; conv => whnf) | (refine both ?_ ?_ <;> conv => whnf))
              all_goals exact ⟨rfl, nl_dv (.mk 0 0 []) 0 false⟩
            | some p =>
              obtain ⟨y, t⟩ := p
              obtain ⟨hz1, hz2⟩ := hdz y t hda
              rw [hda] at ih'
              have htl := hz2.length_le
              have hts : t = s.drop (s.length - t.length) := List.suffix_iff_eq_drop.1 (hz2.trans (List.drop_suffix _ _))
              obtain ⟨e, he⟩ : ∃ e, s.length - t.length = e := ⟨_, rfl⟩
              have ih2 : Fn1 Try.prog 28 [.str s, .int .i64 ((k : Int) + 1)] (fun r => r = .tup [exA y, .int .i64 (e : Nat), .bool true]) := by
                rw [← he]; exact ih'
              clear ih'
              rw [he] at hts
              cases t with
              | nil =>
                rw [baseD, if_neg hlow, if_pos h40c, hda] at hI
                rw [← hI]
                have he2 : e = s.length := by rw [← he]; rfl
                conv => whnf
                repeat' (first | (refine brd_t (by first | assumption | omega) ?_; conv => whnf) | (refine brd_f (by first | assumption | omega) ?_; conv => whnf) | (refine ask (by first | assumption | omega) ?_; conv => whnf) | (refine fit64 (by omega) ?_; conv => whnf) | (refine fit (by simp only [kmin, kmax]; omega) ?_; conv => whnf) | (refine br_t (by assumption) ?_; conv => whnf) | (refine br_f (by assumption) ?_; conv => whnf) | (refine get_of (by assumption) ?_; conv => whnf) | (refine get_map (by assumption) ?_; conv => whnf) | (refine get_of hx ?_; conv => whnf) | (refine call_eq (ih2) hC hasBody_28 ?_ ?_ ?_; kernel_rfl; kernel_rfl; conv => whnf) | (refine callq_eq (ih2) hC hasBody_28 ?_ ?_ ?_; kernel_rfl; kernel_rfl; conv => whnf) | (refine draw_lex hE ?_ ?_; decide +kernel; conv => whnf) | (refine brd (fun h => ?_) (fun h => ?_) <;> conv => whnf) | (refine br (fun h => ?_) (fun h => ?_) <;> conv => whnf) | (refine ret_now hE ?_; conv => whnf) | (intro hlen; conv => whnf) | (refine seg_here ?_; conv => whnf) | (refine both ?_ ?_ <;> conv => whnf))
                all_goals exact ⟨rfl, nl_dv (.mk 0 0 []) 0 false⟩
              | cons d s' =>
                simp only [List.length_cons] at he htl
                have hel : e < s.length := by omega
                have hes : e + 1 ≤ s.length := hel
                obtain ⟨d2, hd2⟩ : ∃ d, s[e]? = some d := ⟨_, List.getElem?_eq_getElem hel⟩
                rw [drop_at hd2] at hts
                obtain ⟨rfl, rfl⟩ : d = d2 ∧ s' = s.drop (e + 1) := by injection hts with h1 h2; exact ⟨h1, h2⟩
                conv => whnf
                repeat' (first | (refine brd_t (by first | assumption | omega) ?_; conv => whnf) | (refine brd_f (by first | assumption | omega) ?_; conv => whnf) | (refine ask (by first | assumption | omega) ?_; conv => whnf) | (refine fit64 (by omega) ?_; conv => whnf) | (refine fit (by simp only [kmin, kmax]; omega) ?_; conv => whnf) | (refine br_t (by assumption) ?_; conv => whnf) | (refine br_f (by assumption) ?_; conv => whnf) | (refine get_of (by assumption) ?_; conv => whnf) | (refine get_map (by assumption) ?_; conv => whnf) | (refine get_of hx ?_; conv => whnf) | (refine call_eq (ih2) hC hasBody_28 ?_ ?_ ?_; kernel_rfl; kernel_rfl; conv => whnf) | (refine callq_eq (ih2) hC hasBody_28 ?_ ?_ ?_; kernel_rfl; kernel_rfl; conv => whnf) | (refine draw_lex hE ?_ ?_; decide +kernel; conv => whnf) | (refine brd (fun h => ?_) (fun h => ?_) <;> conv => whnf) | (refine br (fun h => ?_) (fun h => ?_) <;> conv => whnf) | (refine ret_now hE ?_; conv => whnf) | (intro hlen; conv => whnf) | (refine seg_here ?_; conv => whnf) | (refine both ?_ ?_ <;> conv => whnf))
                have hR2 : R = runD (dAlt n) m (suf y (s.drop (e + 1))).2 (jnd 2 now (suf y (s.drop (e + 1))).1) all := by rw [← hI, baseD, if_neg hlow, if_pos h40c, hda]
                have hiz := itemD_sz (g := dAlt n) (dalt_sz n (s.drop (k + 1))) (c := c) (x := y) (t := s.drop (e + 1)) (by rw [baseD, if_neg hlow, if_pos h40c, hda])
                have hsl := hiz.2.length_le
                obtain ⟨hiz, _⟩ := hiz
                generalize hRs : suf y (s.drop (e + 1)) = Rs at *
                refine loopE (fun ((j, x) : Nat × Ex) => ⟨117, [(0, .str s), (1, .int .i64 (j : Nat)), (4, .ptr 0 0 0), (7, .ptr 1 0 0), (8, .ptr 2 0 0), (9, .fn 46 [.ptr 2 0 0, .ptr 1 0 0]), (11, .ptr 3 0 0)], [some (.row 3 [.agg [.int .i64 0, .int .i64 0, .nils]]), some (.row 3 [.agg (exG now)]), some (.row 1 [allV all]), some (.row 3 [exA x])]⟩)
                  (fun (j, x) => j ≤ s.length ∧ suf x (s.drop j) = Rs) (fun (j, _) => s.length - j) (e + 1, y) hE ?_ ?_ ⟨hes, hRs⟩ ?_
                · kernel_rfl
                · refine at_drop [0, 1, 4, 7, 8, 9, 11] [4] ?_
                  conv => whnf
                  rw [kill_all]
                  rfl
                rintro ⟨j, x⟩ ⟨hj, hI⟩
                have hj : j ≤ s.length := hj
                have hI : suf x (s.drop j) = Rs := hI
                obtain ⟨xk, xt, xp⟩ := x
                have hFin : suf (.mk xk xt xp) (s.drop j) = (.mk xk xt xp, s.drop j) → (.mk xk xt xp, s.drop j) = Rs := fun e => by rw [← hI, e]
                by_cases hjl : j < s.length
                · obtain ⟨d, hd⟩ : ∃ d, s[j]? = some d := ⟨_, List.getElem?_eq_getElem hjl⟩
                  have hdd : s.drop j = d :: s.drop (j + 1) := drop_at hd
                  have hd256 := d.toNat_lt
                  by_cases hs : isSgn d = true
                  · rw [hdd, suf_cons_sgn hs] at hI
                    have h3 : d = 42 ∨ d = 43 ∨ d = 63 := by unfold isSgn at hs; simpa [or_assoc] using hs
                    rcases h3 with h3 | h3 | h3
                    · have hq : d.toNat = 42 := by rw [h3]; rfl
                      rw [h3] at hI
                      conv => whnf
                      repeat' (first | (refine brd_t (by first | assumption | omega) ?_; conv => whnf) | (refine brd_f (by first | assumption | omega) ?_; conv => whnf) | (refine ask (by first | assumption | omega) ?_; conv => whnf) | (refine fit64 (by omega) ?_; conv => whnf) | (refine fit (by simp only [kmin, kmax]; omega) ?_; conv => whnf) | (refine br_t (by assumption) ?_; conv => whnf) | (refine br_f (by assumption) ?_; conv => whnf) | (refine get_of (by assumption) ?_; conv => whnf) | (refine get_map (by assumption) ?_; conv => whnf) | (refine get_of hd ?_; conv => whnf) | (refine draw_lex hE ?_ ?_; decide +kernel; conv => whnf) | (refine brd (fun h => ?_) (fun h => ?_) <;> conv => whnf) | (refine br (fun h => ?_) (fun h => ?_) <;> conv => whnf) | (refine ret_now hE ?_; conv => whnf) | (intro hlen; conv => whnf) | (refine seg_here ?_; conv => whnf) | (refine both ?_ ?_ <;> conv => whnf))
                      refine up_freeze 4 (z := 3) (els := [exA (.mk xk xt xp)]) rfl ⟨exA_nr (.mk xk xt xp), trivial⟩ (next_drop [0, 1, 4, 7, 8, 9, 11] [] (j + 1, .mk 4 0 [.mk xk xt xp]) ⟨hjl, hI⟩ (show s.length - (j + 1) < s.length - j by omega) ?_)
                      conv => whnf
                      simp only [List.set_cons_zero, frz_sign (.mk xk xt xp), exA_one, frz_all, frz_now]
                      rfl
                    · have hq : d.toNat = 43 := by rw [h3]; rfl
                      rw [h3] at hI
                      conv => whnf
                      repeat' (first | (refine brd_t (by first | assumption | omega) ?_; conv => whnf) | (refine brd_f (by first | assumption | omega) ?_; conv => whnf) | (refine ask (by first | assumption | omega) ?_; conv => whnf) | (refine fit64 (by omega) ?_; conv => whnf) | (refine fit (by simp only [kmin, kmax]; omega) ?_; conv => whnf) | (refine br_t (by assumption) ?_; conv => whnf) | (refine br_f (by assumption) ?_; conv => whnf) | (refine get_of (by assumption) ?_; conv => whnf) | (refine get_map (by assumption) ?_; conv => whnf) | (refine get_of hd ?_; conv => whnf) | (refine draw_lex hE ?_ ?_; decide +kernel; conv => whnf) | (refine brd (fun h => ?_) (fun h => ?_) <;> conv => whnf) | (refine br (fun h => ?_) (fun h => ?_) <;> conv => whnf) | (refine ret_now hE ?_; conv => whnf) | (intro hlen; conv => whnf) | (refine seg_here ?_; conv => whnf) | (refine both ?_ ?_ <;> conv => whnf))
                      refine up_freeze 4 (z := 3) (els := [exA (.mk xk xt xp)]) rfl ⟨exA_nr (.mk xk xt xp), trivial⟩ (next_drop [0, 1, 4, 7, 8, 9, 11] [] (j + 1, .mk 5 0 [.mk xk xt xp]) ⟨hjl, hI⟩ (show s.length - (j + 1) < s.length - j by omega) ?_)
                      conv => whnf
                      simp only [List.set_cons_zero, frz_sign (.mk xk xt xp), exA_one, frz_all, frz_now]
                      rfl
                    · have hq : d.toNat = 63 := by rw [h3]; rfl
                      rw [h3] at hI
                      conv => whnf
                      repeat' (first | (refine brd_t (by first | assumption | omega) ?_; conv => whnf) | (refine brd_f (by first | assumption | omega) ?_; conv => whnf) | (refine ask (by first | assumption | omega) ?_; conv => whnf) | (refine fit64 (by omega) ?_; conv => whnf) | (refine fit (by simp only [kmin, kmax]; omega) ?_; conv => whnf) | (refine br_t (by assumption) ?_; conv => whnf) | (refine br_f (by assumption) ?_; conv => whnf) | (refine get_of (by assumption) ?_; conv => whnf) | (refine get_map (by assumption) ?_; conv => whnf) | (refine get_of hd ?_; conv => whnf) | (refine draw_lex hE ?_ ?_; decide +kernel; conv => whnf) | (refine brd (fun h => ?_) (fun h => ?_) <;> conv => whnf) | (refine br (fun h => ?_) (fun h => ?_) <;> conv => whnf) | (refine ret_now hE ?_; conv => whnf) | (intro hlen; conv => whnf) | (refine seg_here ?_; conv => whnf) | (refine both ?_ ?_ <;> conv => whnf))
                      refine up_freeze 4 (z := 3) (els := [exA (.mk xk xt xp)]) rfl ⟨exA_nr (.mk xk xt xp), trivial⟩ (next_drop [0, 1, 4, 7, 8, 9, 11] [] (j + 1, .mk 6 0 [.mk xk xt xp]) ⟨hjl, hI⟩ (show s.length - (j + 1) < s.length - j by omega) ?_)
                      conv => whnf
                      simp only [List.set_cons_zero, frz_sign (.mk xk xt xp), exA_one, frz_all, frz_now]
                      rfl
                  · have h3 : ¬ d = 42 ∧ ¬ d = 43 ∧ ¬ d = 63 := by unfold isSgn at hs; simpa [and_assoc] using hs
                    have hq1 : ¬ d.toNat = 42 := fun e => h3.1 (UInt8.toNat_inj.1 e)
                    have hq2 : ¬ d.toNat = 43 := fun e => h3.2.1 (UInt8.toNat_inj.1 e)
                    have hq3 : ¬ d.toNat = 63 := fun e => h3.2.2 (UInt8.toNat_inj.1 e)
                    have hF := hFin (by rw [hdd, suf_cons_no hs])
                    subst hF
                    simp only [List.length_drop] at hiz hsl hR2
                    have hjw := joined_walk 2 now (.mk xk xt xp) (by omega) (by omega)
                    conv => whnf
                    repeat' (first | (refine brd_t (by first | assumption | omega) ?_; conv => whnf) | (refine brd_f (by first | assumption | omega) ?_; conv => whnf) | (refine ask (by first | assumption | omega) ?_; conv => whnf) | (refine fit64 (by omega) ?_; conv => whnf) | (refine fit (by simp only [kmin, kmax]; omega) ?_; conv => whnf) | (refine br_t (by assumption) ?_; conv => whnf) | (refine br_f (by assumption) ?_; conv => whnf) | (refine get_of (by assumption) ?_; conv => whnf) | (refine get_map (by assumption) ?_; conv => whnf) | (refine get_of hd ?_; conv => whnf) | (refine call_eq (hjw) hC hasBody_47 ?_ ?_ ?_; kernel_rfl; kernel_rfl; conv => whnf) | (refine callq_eq (hjw) hC hasBody_47 ?_ ?_ ?_; kernel_rfl; kernel_rfl; conv => whnf) | (refine draw_lex hE ?_ ?_; decide +kernel; conv => whnf) | (refine brd (fun h => ?_) (fun h => ?_) <;> conv => whnf) | (refine br (fun h => ?_) (fun h => ?_) <;> conv => whnf) | (refine ret_now hE ?_; conv => whnf) | (intro hlen; conv => whnf) | (refine seg_here ?_; conv => whnf) | (refine both ?_ ?_ <;> conv => whnf))
                    refine next_drop [0, 1, 4, 7, 8, 9] [3] (m, j, jnd 2 now (.mk xk xt xp), all) ⟨?_, hj, ?_, ?_, hR2.symm⟩ (Nat.lt_succ_self m) ?_
                    · show k0 ≤ j; omega
                    · show s.length - j ≤ m; omega
                    · have := jnd_sz 2 now (.mk xk xt xp)
                      show szE (jnd 2 now (.mk xk xt xp)) + szO all + 16 * (s.length - j) ≤ 660
                      omega
                    · conv => whnf
                      rw [kill_all]
                      rfl
                · have hjn : j = s.length := by omega
                  have hF := hFin (by rw [List.drop_eq_nil_of_le (by omega)]; simp [suf])
                  subst hF
                  simp only [List.length_drop] at hiz hsl hR2
                  have hjw := joined_walk 2 now (.mk xk xt xp) (by omega) (by omega)
                  conv => whnf
                  repeat' (first | (refine brd_t (by first | assumption | omega) ?_; conv => whnf) | (refine brd_f (by first | assumption | omega) ?_; conv => whnf) | (refine ask (by first | assumption | omega) ?_; conv => whnf) | (refine fit64 (by omega) ?_; conv => whnf) | (refine fit (by simp only [kmin, kmax]; omega) ?_; conv => whnf) | (refine br_t (by assumption) ?_; conv => whnf) | (refine br_f (by assumption) ?_; conv => whnf) | (refine get_of (by assumption) ?_; conv => whnf) | (refine get_map (by assumption) ?_; conv => whnf) | (refine call_eq (hjw) hC hasBody_47 ?_ ?_ ?_; kernel_rfl; kernel_rfl; conv => whnf) | (refine callq_eq (hjw) hC hasBody_47 ?_ ?_ ?_; kernel_rfl; kernel_rfl; conv => whnf) | (refine draw_lex hE ?_ ?_; decide +kernel; conv => whnf) | (refine brd (fun h => ?_) (fun h => ?_) <;> conv => whnf) | (refine br (fun h => ?_) (fun h => ?_) <;> conv => whnf) | (refine ret_now hE ?_; conv => whnf) | (intro hlen; conv => whnf) | (refine seg_here ?_; conv => whnf) | (refine both ?_ ?_ <;> conv => whnf))
                  refine next_drop [0, 1, 4, 7, 8, 9] [3] (m, j, jnd 2 now (.mk xk xt xp), all) ⟨?_, hj, ?_, ?_, hR2.symm⟩ (Nat.lt_succ_self m) ?_
                  · show k0 ≤ j; omega
                  · show s.length - j ≤ m; omega
                  · have := jnd_sz 2 now (.mk xk xt xp)
                    show szE (jnd 2 now (.mk xk xt xp)) + szO all + 16 * (s.length - j) ≤ 660
                    omega
                  · conv => whnf
                    rw [kill_all]
                    rfl

          · have hq40 : ¬ c.toNat = 40 := fun e => h40c (UInt8.toNat_inj.1 e)
            rw [baseD, if_neg hlow, if_neg h40c] at hI
            rw [← hI]
            conv => whnf
            repeat' (first | (refine brd_t (by first | assumption | omega) ?_; conv => whnf) | (refine brd_f (by first | assumption | omega) ?_; conv => whnf) | (refine ask (by first | assumption | omega) ?_; conv => whnf) | (refine fit64 (by omega) ?_; conv => whnf) | (refine fit (by simp only [kmin, kmax]; omega) ?_; conv => whnf) | (refine br_t (by assumption) ?_; conv => whnf) | (refine br_f (by assumption) ?_; conv => whnf) | (refine get_of (by assumption) ?_; conv => whnf) | (refine get_map (by assumption) ?_; conv => whnf) | (refine get_of hx ?_; conv => whnf) | (refine draw_lex hE ?_ ?_; decide +kernel; conv => whnf) | (refine brd (fun h => ?_) (fun h => ?_) <;> conv => whnf) | (refine br (fun h => ?_) (fun h => ?_) <;> conv => whnf) | (refine ret_now hE ?_; conv => whnf) | (intro hlen; conv => whnf) | (refine seg_here ?_; conv => whnf) | (refine both ?_ ?_ <;> conv => whnf))
            all_goals exact ⟨rfl, nl_dv (.mk 0 0 []) 0 false⟩
  · have hkn : k = s.length := by omega
    have hdk : s.drop k = [] := List.drop_eq_nil_of_le (by omega)
    have hI2 : R = some (flu all now, s.drop k) := by
      rw [← hI, hdk]
      cases m <;> rfl
    rw [hI2, dv_at hk]
    conv => whnf
    repeat' (first | (refine brd_t (by first | assumption | omega) ?_; conv => whnf) | (refine brd_f (by first | assumption | omega) ?_; conv => whnf) | (refine ask (by first | assumption | omega) ?_; conv => whnf) | (refine fit64 (by omega) ?_; conv => whnf) | (refine fit (by simp only [kmin, kmax]; omega) ?_; conv => whnf) | (refine br_t (by assumption) ?_; conv => whnf) | (refine br_f (by assumption) ?_; conv => whnf) | (refine get_of (by assumption) ?_; conv => whnf) | (refine get_map (by assumption) ?_; conv => whnf) | (refine call_two (h_flush all now haz hnz) hC hasBody_46 2 1 (by decide) rfl trivial trivial rfl rfl (nr_all all) (nr_all _) nr_now nr_now ?_; conv => whnf) | (refine draw_lex hE ?_ ?_; decide +kernel; conv => whnf) | (refine brd (fun h => ?_) (fun h => ?_) <;> conv => whnf) | (refine br (fun h => ?_) (fun h => ?_) <;> conv => whnf) | (refine ret_now hE ?_; conv => whnf) | (intro hlen; conv => whnf) | (refine seg_here ?_; conv => whnf) | (refine both ?_ ?_ <;> conv => whnf))
    all_goals exact ⟨rfl, nl_dv _ _ _⟩
end Go.Proofs.Yteappcclfjafeaa
