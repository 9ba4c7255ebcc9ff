/- style.Parse and the document's answer, and their likeness. No conditions. -/
import Derived.Test.YtaeeceabnkgnnaaDoorStyDE
import Derived.Test.YtaeeceabnkgnnaaDoorOwn
/-! The document's add, walked. No conditions. -/
set_option linter.unusedSimpArgs false
set_option linter.unusedVariables false
set_option maxRecDepth 100000
namespace Go.Proofs.YtaeeceabnkgnnaaDoor
open Go.RowKit

def obA (out : List Dc) : List Ob := [.row 1 [.sl 1 0 out.length], .row 2 (out.map declA)]
theorem declOf_no {p : List UInt8} (h : Lib.index p [58] = -1) : declOf p = none := by
  unfold declOf
  rw [cut_miss (by omega), if_neg (by simp)]
theorem declOf_yes {p : List UInt8} (h : 0 ≤ Lib.index p [58]) : declOf p = if nameOk (smallL (tS (p.take (Lib.index p [58]).toNat))) = true ∧ tS (p.drop ((Lib.index p [58]).toNat + 1)) ≠ [] then some (smallL (tS (p.take (Lib.index p [58]).toNat)), tS (p.drop ((Lib.index p [58]).toNat + 1))) else none := by
  unfold declOf
  rw [cut_hit h]
  simp
set_option maxHeartbeats 8000000 in
theorem h_add (p : List UInt8) (out : List Dc) (hp : p.length ≤ 1048576) (ho : out.length ≤ 1048576) : HFn Tryd.prog 43 [.str p, .ptr 0 0 0] (obA out) [0] (fun r o => r = .tup [] ∧ o = obA (out ++ (declOf p).toList)) := by
  have hpl := place_of p [58] 0 (by simp) (Nat.zero_le _) hp (by simp)
  have hlow := index_low p [58]
  have e0 : plc p [58] 0 = Lib.index p [58] := by
    unfold plc
    rw [List.drop_zero]
    split
    · rename_i h; rw [h]
    · simp
  rw [e0] at hpl
  refine hfnE (T := Tryd.tt) Tryd.func43 rfl tt_all follows_all ?_ ?_ fun C vs hC hE => ?_
  · kernel_rfl
  · exact Nat.le_of_ble_eq_true (by kernel_rfl)
  by_cases hi : Lib.index p [58] = -1
  · rw [declOf_no hi]
    rw [hi] at hpl
    conv => whnf
    repeat' (first | (refine brd_t (by first | assumption | omega) ?_; conv => whnf) | (refine brd_f (by first | assumption | omega) ?_; conv => whnf) | (refine ask (by first | assumption | omega) ?_; conv => whnf) | (refine fit64 (by omega) ?_; conv => whnf) | (refine fit (by simp only [kmin, kmax]; omega) ?_; conv => whnf) | (refine br_t (by assumption) ?_; conv => whnf) | (refine br_f (by assumption) ?_; conv => whnf) | (refine get_of (by assumption) ?_; conv => whnf) | (refine get_map (by assumption) ?_; conv => whnf) | (refine call_eq (hpl) hC hasBody_30 ?_ ?_ ?_; kernel_rfl; kernel_rfl; conv => whnf) | (refine callq_eq (hpl) hC hasBody_30 ?_ ?_ ?_; kernel_rfl; kernel_rfl; conv => whnf) | (refine draw_lex hE ?_ ?_; decide +kernel; conv => whnf) | (refine draw_any hE [⟨1, [(0, none), (1, none), (2, none), (3, none), (4, none), (5, none), (6, none), (7, none), (8, none), (9, none), (10, none), (11, some 0)], some 12, [], [[]]⟩] ?_ ?_; decide +kernel; conv => whnf) | (refine brd (fun h => ?_) (fun h => ?_) <;> conv => whnf) | (refine br (fun h => ?_) (fun h => ?_) <;> conv => whnf) | (refine ret_now hE ?_; conv => whnf) | (intro hlen; conv => whnf) | (refine seg_here ?_; conv => whnf) | (refine both ?_ ?_ <;> conv => whnf))
    all_goals
      refine hret_up (up_here (hret_now hE ?_))
      conv => whnf
      refine ⟨rfl, rfl, rfl, ?_⟩
      simp only [Option.toList, List.append_nil]
      rfl
  · have h0 : 0 ≤ Lib.index p [58] := by omega
    have hroom := index_room (by simp) p h0
    simp only [List.length_singleton] at hroom
    rw [declOf_yes h0]
    obtain ⟨k, hk⟩ : ∃ k : Nat, Lib.index p [58] = k := ⟨(Lib.index p [58]).toNat, by omega⟩
    rw [hk] at hpl hroom ⊢
    have ek : ((k : Int)).toNat = k := by omega
    have ek1 : ((k : Int) + 1).toNat = k + 1 := by omega
    rw [ek] at hroom ⊢
    have ht1 := style_trim (p.take ((k : Int)).toNat) (by simp; omega)
    have ht2 := style_trim (p.drop ((k : Int) + 1).toNat) (by simp; omega)
    have hl1 := trimS_len (p.take ((k : Int)).toNat) [32, 9, 10, 12, 13]
    rw [show Lib.trimS (p.take ((k : Int)).toNat) [32, 9, 10, 12, 13] = tS (p.take k) by rw [ek]; rfl] at ht1 hl1
    rw [show Lib.trimS (p.drop ((k : Int) + 1).toNat) [32, 9, 10, 12, 13] = tS (p.drop (k + 1)) by rw [ek1]; rfl] at ht2
    have hlw := ref_lowered (tS (p.take k)) (by rw [List.length_take] at hl1; omega)
    have hnm := name_may (smallL (tS (p.take k)))
    generalize smallL (tS (p.take k)) = n at *
    generalize tS (p.drop (k + 1)) = v at *
    have hom := decls_len out
    have hap := decl_app out (n, v)
    have hal := decl_app_len out (n, v)
    generalize nameOk n = ok at *
    cases ok with
    | false =>
      rw [if_neg (by simp)]
      conv => whnf
      repeat' (first | (refine brd_t (by first | assumption | omega) ?_; conv => whnf) | (refine brd_f (by first | assumption | omega) ?_; conv => whnf) | (refine ask (by first | assumption | omega) ?_; conv => whnf) | (refine fit64 (by omega) ?_; conv => whnf) | (refine fit (by simp only [kmin, kmax]; omega) ?_; conv => whnf) | (refine br_t (by assumption) ?_; conv => whnf) | (refine br_f (by assumption) ?_; conv => whnf) | (refine get_of (by assumption) ?_; conv => whnf) | (refine get_map (by assumption) ?_; conv => whnf) | (refine call_eq (hpl) hC hasBody_30 ?_ ?_ ?_; kernel_rfl; kernel_rfl; conv => whnf) | (refine callq_eq (hpl) hC hasBody_30 ?_ ?_ ?_; kernel_rfl; kernel_rfl; conv => whnf) | (refine call_eq (ht1) hC hasBody_44 ?_ ?_ ?_; kernel_rfl; kernel_rfl; conv => whnf) | (refine callq_eq (ht1) hC hasBody_44 ?_ ?_ ?_; kernel_rfl; kernel_rfl; conv => whnf) | (refine call_eq (ht2) hC hasBody_44 ?_ ?_ ?_; kernel_rfl; kernel_rfl; conv => whnf) | (refine callq_eq (ht2) hC hasBody_44 ?_ ?_ ?_; kernel_rfl; kernel_rfl; conv => whnf) | (refine call_eq (hlw) hC hasBody_32 ?_ ?_ ?_; kernel_rfl; kernel_rfl; conv => whnf) | (refine callq_eq (hlw) hC hasBody_32 ?_ ?_ ?_; kernel_rfl; kernel_rfl; conv => whnf) | (refine call_eq (hnm) hC hasBody_24 ?_ ?_ ?_; kernel_rfl; kernel_rfl; conv => whnf) | (refine callq_eq (hnm) hC hasBody_24 ?_ ?_ ?_; kernel_rfl; kernel_rfl; conv => whnf) | (refine draw_lex hE ?_ ?_; decide +kernel; conv => whnf) | (refine draw_any hE [⟨1, [(0, none), (1, none), (2, none), (3, none), (4, none), (5, none), (6, none), (7, none), (8, none), (9, none), (10, none), (11, some 0)], some 12, [], [[]]⟩] ?_ ?_; decide +kernel; conv => whnf) | (refine brd (fun h => ?_) (fun h => ?_) <;> conv => whnf) | (refine br (fun h => ?_) (fun h => ?_) <;> conv => whnf) | (refine ret_now hE ?_; conv => whnf) | (intro hlen; conv => whnf) | (refine seg_here ?_; conv => whnf) | (refine both ?_ ?_ <;> conv => whnf))
      all_goals
        refine hret_low hE ?_
        conv => whnf
        refine ⟨rfl, rfl, rfl, ?_, rfl, ?_⟩
        · simp only [lowOs, Ob.low, low_nrL _ (nr_decls out)]; rfl
        · simp only [Option.toList, List.append_nil]; rfl
    | true =>
      by_cases hv : v = []
      · rw [if_neg (by simp [hv])]
        conv => whnf
        repeat' (first | (refine brd_t (by first | assumption | omega) ?_; conv => whnf) | (refine brd_f (by first | assumption | omega) ?_; conv => whnf) | (refine ask (by first | assumption | omega) ?_; conv => whnf) | (refine fit64 (by omega) ?_; conv => whnf) | (refine fit (by simp only [kmin, kmax]; omega) ?_; conv => whnf) | (refine br_t (by assumption) ?_; conv => whnf) | (refine br_f (by assumption) ?_; conv => whnf) | (refine get_of (by assumption) ?_; conv => whnf) | (refine get_map (by assumption) ?_; conv => whnf) | (refine call_eq (hpl) hC hasBody_30 ?_ ?_ ?_; kernel_rfl; kernel_rfl; conv => whnf) | (refine callq_eq (hpl) hC hasBody_30 ?_ ?_ ?_; kernel_rfl; kernel_rfl; conv => whnf) | (refine call_eq (ht1) hC hasBody_44 ?_ ?_ ?_; kernel_rfl; kernel_rfl; conv => whnf) | (refine callq_eq (ht1) hC hasBody_44 ?_ ?_ ?_; kernel_rfl; kernel_rfl; conv => whnf) | (refine call_eq (ht2) hC hasBody_44 ?_ ?_ ?_; kernel_rfl; kernel_rfl; conv => whnf) | (refine callq_eq (ht2) hC hasBody_44 ?_ ?_ ?_; kernel_rfl; kernel_rfl; conv => whnf) | (refine call_eq (hlw) hC hasBody_32 ?_ ?_ ?_; kernel_rfl; kernel_rfl; conv => whnf) | (refine callq_eq (hlw) hC hasBody_32 ?_ ?_ ?_; kernel_rfl; kernel_rfl; conv => whnf) | (refine call_eq (hnm) hC hasBody_24 ?_ ?_ ?_; kernel_rfl; kernel_rfl; conv => whnf) | (refine callq_eq (hnm) hC hasBody_24 ?_ ?_ ?_; kernel_rfl; kernel_rfl; conv => whnf) | (refine draw_lex hE ?_ ?_; decide +kernel; conv => whnf) | (refine draw_any hE [⟨1, [(0, none), (1, none), (2, none), (3, none), (4, none), (5, none), (6, none), (7, none), (8, none), (9, none), (10, none), (11, some 0)], some 12, [], [[]]⟩] ?_ ?_; decide +kernel; conv => whnf) | (refine brd (fun h => ?_) (fun h => ?_) <;> conv => whnf) | (refine br (fun h => ?_) (fun h => ?_) <;> conv => whnf) | (refine ret_now hE ?_; conv => whnf) | (intro hlen; conv => whnf) | (refine seg_here ?_; conv => whnf) | (refine both ?_ ?_ <;> conv => whnf))
        all_goals
          refine hret_low hE ?_
          conv => whnf
          refine ⟨rfl, rfl, rfl, ?_, rfl, ?_⟩
          · simp only [lowOs, Ob.low, low_nrL _ (nr_decls out)]; rfl
          · simp only [Option.toList, List.append_nil]; rfl
      · rw [if_pos ⟨rfl, hv⟩]
        conv => whnf
        repeat' (first | (refine brd_t (by first | assumption | omega) ?_; conv => whnf) | (refine brd_f (by first | assumption | omega) ?_; conv => whnf) | (refine ask (by first | assumption | omega) ?_; conv => whnf) | (refine fit64 (by omega) ?_; conv => whnf) | (refine fit (by simp only [kmin, kmax]; omega) ?_; conv => whnf) | (refine br_t (by assumption) ?_; conv => whnf) | (refine br_f (by assumption) ?_; conv => whnf) | (refine get_of (by assumption) ?_; conv => whnf) | (refine get_map (by assumption) ?_; conv => whnf) | (refine call_eq (hpl) hC hasBody_30 ?_ ?_ ?_; kernel_rfl; kernel_rfl; conv => whnf) | (refine callq_eq (hpl) hC hasBody_30 ?_ ?_ ?_; kernel_rfl; kernel_rfl; conv => whnf) | (refine call_eq (ht1) hC hasBody_44 ?_ ?_ ?_; kernel_rfl; kernel_rfl; conv => whnf) | (refine callq_eq (ht1) hC hasBody_44 ?_ ?_ ?_; kernel_rfl; kernel_rfl; conv => whnf) | (refine call_eq (ht2) hC hasBody_44 ?_ ?_ ?_; kernel_rfl; kernel_rfl; conv => whnf) | (refine callq_eq (ht2) hC hasBody_44 ?_ ?_ ?_; kernel_rfl; kernel_rfl; conv => whnf) | (refine call_eq (hlw) hC hasBody_32 ?_ ?_ ?_; kernel_rfl; kernel_rfl; conv => whnf) | (refine callq_eq (hlw) hC hasBody_32 ?_ ?_ ?_; kernel_rfl; kernel_rfl; conv => whnf) | (refine call_eq (hnm) hC hasBody_24 ?_ ?_ ?_; kernel_rfl; kernel_rfl; conv => whnf) | (refine callq_eq (hnm) hC hasBody_24 ?_ ?_ ?_; kernel_rfl; kernel_rfl; conv => whnf) | (refine ask (Nat.le_refl 1) ?_; conv => whnf) | (refine ask ⟨?_, ?_, ?_⟩ ?_; omega; (show _ + 1 ≤ 9223372036854775807; omega); (show (_ + 1) * _ ≤ 140737488355328; omega); conv => whnf) | (refine draw_lex hE ?_ ?_; decide +kernel; conv => whnf) | (refine draw_any hE [⟨1, [(0, none), (1, none), (2, none), (3, none), (4, none), (5, none), (6, none), (7, none), (8, none), (9, none), (10, none), (11, some 0)], some 12, [], [[]]⟩] ?_ ?_; decide +kernel; conv => whnf) | (refine brd (fun h => ?_) (fun h => ?_) <;> conv => whnf) | (refine br (fun h => ?_) (fun h => ?_) <;> conv => whnf) | (refine ret_now hE ?_; conv => whnf) | (intro hlen; conv => whnf) | (refine seg_here ?_; conv => whnf) | (refine both ?_ ?_ <;> conv => whnf))
        all_goals
          refine hret_low hE ?_
          conv => whnf
          rw [hap, decl_kill, hal]
          refine ⟨rfl, rfl, rfl, ?_, rfl, rfl⟩
          simp only [lowOs, Ob.low, low_nrL _ (nr_decls _)]
          rfl
end Go.Proofs.YtaeeceabnkgnnaaDoor

/-! The document's styleParsed, walked. No conditions. -/
namespace Go.Proofs.YtaeeceabnkgnnaaDoor
open Go.RowKit

theorem bareD_no {n : Nat} {c : UInt8} {r : List UInt8} (h : ¬ [47, 42].isPrefixOf (c :: r) = true) : bareD (n + 1) (c :: r) = c :: bareD n r := by rw [bareD, if_neg h]
set_option maxHeartbeats 32000000 in
theorem ref_style (s : List UInt8) (hs : s.length ≤ 1048575) (hB : (bareD (s.length + 1) s).length ≤ s.length) : Fn1 Tryd.prog 20 [.str s] (fun r => r = .lst (((pcsD ((bareD (s.length + 1) s).length + 1) 0 [] (bareD (s.length + 1) s)).filterMap declOf).map declA)) := by
  generalize hR : (pcsD ((bareD (s.length + 1) s).length + 1) 0 [] (bareD (s.length + 1) s)).filterMap declOf = R
  refine fn1E (T := Tryd.tt) Tryd.func20 rfl tt_all follows_all ?_ ?_ fun C hC hE => ?_
  · kernel_rfl
  · exact Nat.le_of_ble_eq_true (by kernel_rfl)
  conv => whnf
  repeat' (first | (refine brd_t (by first | assumption | omega) ?_; conv => whnf) | (refine brd_f (by first | assumption | omega) ?_; conv => whnf) | (refine ask (by first | assumption | omega) ?_; conv => whnf) | (refine fit64 (by omega) ?_; conv => whnf) | (refine fit (by simp only [kmin, kmax]; omega) ?_; conv => whnf) | (refine br_t (by assumption) ?_; conv => whnf) | (refine br_f (by assumption) ?_; conv => whnf) | (refine get_of (by assumption) ?_; conv => whnf) | (refine get_map (by assumption) ?_; conv => whnf) | (refine draw_lex hE ?_ ?_; decide +kernel; conv => whnf) | (refine brd (fun h => ?_) (fun h => ?_) <;> conv => whnf) | (refine br (fun h => ?_) (fun h => ?_) <;> conv => whnf) | (refine ret_now hE ?_; conv => whnf) | (intro hlen; conv => whnf) | (refine seg_here ?_; conv => whnf) | (refine both ?_ ?_ <;> conv => whnf))
  refine loopE (fun ((n, t, p) : Nat × List UInt8 × List UInt8) => ⟨100, [(0, .str t), (3, .str p)], []⟩)
    (fun (n, t, p) => t.length < n ∧ p.length + t.length ≤ s.length ∧ p ++ bareD n t = bareD (s.length + 1) s) (fun (n, _) => n) (s.length + 1, s, []) hE ?_ ?_ ⟨Nat.lt_succ_self _, Nat.le_of_eq (Nat.zero_add _), rfl⟩ ?_
  · kernel_rfl
  · exact at_keep [0, 3] rfl
  rintro ⟨n, t, p⟩ ⟨hn, hpt, hI⟩
  have hn : t.length < n := hn
  have hpt : p.length + t.length ≤ s.length := hpt
  have hI : p ++ bareD n t = bareD (s.length + 1) s := hI
  cases n with
  | zero => omega
  | succ n =>
  cases t with
  | nil =>
    have hz : ([] : List UInt8).length = 0 := rfl
    have hpe : p = bareD (s.length + 1) s := by rw [← hI]; simp [bareD]
    subst hpe
    conv => whnf
    repeat' (first | (refine brd_t (by first | assumption | omega) ?_; conv => whnf) | (refine brd_f (by first | assumption | omega) ?_; conv => whnf) | (refine ask (by first | assumption | omega) ?_; conv => whnf) | (refine fit64 (by omega) ?_; conv => whnf) | (refine fit (by simp only [kmin, kmax]; omega) ?_; conv => whnf) | (refine br_t (by assumption) ?_; conv => whnf) | (refine br_f (by assumption) ?_; conv => whnf) | (refine get_of (by assumption) ?_; conv => whnf) | (refine get_map (by assumption) ?_; conv => whnf) | (refine draw_lex hE ?_ ?_; decide +kernel; conv => whnf) | (refine brd (fun h => ?_) (fun h => ?_) <;> conv => whnf) | (refine br (fun h => ?_) (fun h => ?_) <;> conv => whnf) | (refine ret_now hE ?_; conv => whnf) | (intro hlen; conv => whnf) | (refine seg_here ?_; conv => whnf) | (refine both ?_ ?_ <;> conv => whnf))
    generalize hP : bareD (s.length + 1) s = P at *
    refine loopE (fun ((n, i, d, now, out) : Nat × Nat × Nat × List UInt8 × List Dc) => ⟨100, [(3, .str P), (5, .ptr 0 0 0), (6, .fn 43 [.ptr 0 0 0]), (7, .str now), (8, .int .i64 (d : Nat)), (9, .int .i64 (i : Nat))], [some (.row 1 [.sl 1 0 out.length]), some (.row 2 (out.map declA))]⟩)
      (fun (n, i, d, now, out) => i ≤ P.length ∧ (P.drop i).length < n ∧ now.length ≤ i ∧ out.length ≤ i ∧ d ≤ i ∧ out ++ (pcsD n d now (P.drop i)).filterMap declOf = R) (fun (n, _) => n) (P.length + 1, 0, 0, [], []) hE ?_ ?_ ⟨Nat.zero_le _, Nat.lt_succ_self _, Nat.le_refl _, Nat.le_refl _, Nat.le_refl _, hR⟩ ?_
    · kernel_rfl
    · exact up_ownf 0 2 (x' := .sl 1 0 0) rfl (ownC_at 1 [] []) rfl (at_keep [3, 5, 6, 7, 8, 9] rfl)
    rintro ⟨n, i, d, now, out⟩ ⟨hi, hn, hnow, hout, hd, hI⟩
    replace hi : i ≤ P.length := hi
    replace hn : (P.drop i).length < n := hn
    replace hnow : now.length ≤ i := hnow
    replace hout : out.length ≤ i := hout
    replace hd : d ≤ i := hd
    replace hI : out ++ (pcsD n d now (P.drop i)).filterMap declOf = R := hI
    have hin : ((i : Int)).toNat = i := by omega
    cases n with
    | zero => omega
    | succ n =>
    by_cases hlt : i < P.length
    · obtain ⟨c, hx⟩ : ∃ c, P[i]? = some c := ⟨_, List.getElem?_eq_getElem hlt⟩
      have hc := c.toNat_lt
      have hdr : P.drop i = c :: P.drop (i + 1) := by
        obtain ⟨hl, rfl⟩ := List.getElem?_eq_some_iff.1 hx
        exact List.drop_eq_getElem_cons hl
      have hlr : (P.drop (i + 1)).length < n := by rw [hdr] at hn; simp only [List.length_cons] at hn; omega
      rw [hdr, pcsD] at hI
      have hv : [V.int .u8 (c.toNat : Int)] = [c].map byteV := rfl
      by_cases c1 : c = 34 ∨ c = 39
      · rw [if_pos c1] at hI
        have hcn : c.toNat = 34 ∨ c.toNat = 39 := by rcases c1 with h | h <;> rw [h] <;> decide
        have hpl : Fn1 Tryd.prog 30 [.str P, .str [c], .int .i64 ((i : Int) + 1)] (fun r => r = .int .i64 (plc P [c] (i + 1))) := place_of P [c] (i + 1) (by simp) (by omega) (by omega) (by simp)
        have hlow := index_low (P.drop (i + 1)) [c]
        by_cases hm : Lib.index (P.drop (i + 1)) [c] = -1
        · have hpc : plc P [c] (i + 1) = -1 := by unfold plc; rw [if_pos hm]
          rw [hpc] at hpl
          rw [if_pos hm, ← hdr] at hI
          have hcut : (P.take ((P.length : Int) - 1 + 1).toNat).drop ((i : Int)).toNat = P.drop i := by
            rw [show ((P.length : Int) - 1 + 1).toNat = P.length by omega, hin, List.take_length]
          have hfin : pcsD n d (now ++ P.drop i) (P.drop P.length) = [now ++ P.drop i] := by
            rw [List.drop_length]; cases n <;> rfl
          have hI2 : out ++ (pcsD n d (now ++ P.drop i) (P.drop P.length)).filterMap declOf = R := by rw [hfin]; exact hI
          rcases hcn with hcn | hcn
          all_goals
            conv => whnf
            repeat' (first | (refine brd_t (by first | assumption | omega) ?_; conv => whnf) | (refine brd_f (by first | assumption | omega) ?_; conv => whnf) | (refine ask (by first | assumption | omega) ?_; conv => whnf) | (refine fit64 (by omega) ?_; conv => whnf) | (refine fit (by simp only [kmin, kmax]; omega) ?_; conv => whnf) | (refine br_t (by assumption) ?_; conv => whnf) | (refine br_f (by assumption) ?_; conv => whnf) | (refine get_of (by assumption) ?_; conv => whnf) | (refine get_map (by assumption) ?_; conv => whnf) | (refine get_of hx ?_; conv => whnf) | (refine ⟨[c], hv, Nat.le_of_ble_eq_true rfl, ?_⟩; conv => whnf) | (refine ask (Nat.le_refl 1) ?_; conv => whnf) | (refine call_eq (hpl) hC hasBody_30 ?_ ?_ ?_; kernel_rfl; kernel_rfl; conv => whnf) | (refine callq_eq (hpl) hC hasBody_30 ?_ ?_ ?_; kernel_rfl; kernel_rfl; conv => whnf) | (refine ask ?_ ?_; (rw [hcut, List.length_drop]; omega); conv => whnf) | (refine draw_lex hE ?_ ?_; decide +kernel; conv => whnf) | (refine brd (fun h => ?_) (fun h => ?_) <;> conv => whnf) | (refine br (fun h => ?_) (fun h => ?_) <;> conv => whnf) | (refine ret_now hE ?_; conv => whnf) | (intro hlen; conv => whnf) | (refine seg_here ?_; conv => whnf) | (refine both ?_ ?_ <;> conv => whnf))
            all_goals
              refine next_drop [3, 5, 6, 7, 8, 9] [2] (n, P.length, d, now ++ P.drop i, out) ⟨Nat.le_refl _, ?_, ?_, ?_, ?_, hI2⟩ (Nat.lt_succ_self n) ?_
              · rw [List.drop_length]; exact Nat.zero_lt_of_lt hlr
              · show (now ++ P.drop i).length ≤ P.length
                rw [List.length_append, List.length_drop]; omega
              · show out.length ≤ P.length; omega
              · show d ≤ P.length; omega
              · conv => whnf
                rw [hcut, decl_kill, show (P.length : Int) - 1 + 1 = P.length by omega]
                rfl
        · obtain ⟨k, hk⟩ : ∃ k : Nat, Lib.index (P.drop (i + 1)) [c] = k := ⟨(Lib.index (P.drop (i + 1)) [c]).toNat, by omega⟩
          have hroom := index_room (by simp) (P.drop (i + 1)) (show 0 ≤ Lib.index (P.drop (i + 1)) [c] by omega)
          have hpc : plc P [c] (i + 1) = ((i + k + 1 : Nat) : Int) := by unfold plc; rw [if_neg hm, hk]; push_cast; omega
          rw [hpc] at hpl
          rw [if_neg hm, hk] at hI
          rw [hk] at hroom
          simp only [List.length_singleton, List.length_drop] at hroom
          have ek : ((k : Int)).toNat = k := by omega
          rw [ek] at hI hroom
          have hcut : (P.take (((i + k + 1 : Nat) : Int) + 1).toNat).drop ((i : Int)).toNat = c :: (P.drop (i + 1)).take (k + 1) := by
            rw [show (((i + k + 1 : Nat) : Int) + 1).toNat = i + (k + 2) by omega, hin, cut_at, hdr, List.take_succ_cons]
          have hdd : (P.drop (i + 1)).drop (k + 1) = P.drop (i + k + 2) := by
            rw [List.drop_drop]; congr 1; omega
          rw [hdd] at hI
          have hcl : (c :: (P.drop (i + 1)).take (k + 1)).length = k + 2 := by
            simp only [List.length_cons, List.length_take, List.length_drop]; omega
          rcases hcn with hcn | hcn
          all_goals
            conv => whnf
            repeat' (first | (refine brd_t (by first | assumption | omega) ?_; conv => whnf) | (refine brd_f (by first | assumption | omega) ?_; conv => whnf) | (refine ask (by first | assumption | omega) ?_; conv => whnf) | (refine fit64 (by omega) ?_; conv => whnf) | (refine fit (by simp only [kmin, kmax]; omega) ?_; conv => whnf) | (refine br_t (by assumption) ?_; conv => whnf) | (refine br_f (by assumption) ?_; conv => whnf) | (refine get_of (by assumption) ?_; conv => whnf) | (refine get_map (by assumption) ?_; conv => whnf) | (refine get_of hx ?_; conv => whnf) | (refine ⟨[c], hv, Nat.le_of_ble_eq_true rfl, ?_⟩; conv => whnf) | (refine ask (Nat.le_refl 1) ?_; conv => whnf) | (refine call_eq (hpl) hC hasBody_30 ?_ ?_ ?_; kernel_rfl; kernel_rfl; conv => whnf) | (refine callq_eq (hpl) hC hasBody_30 ?_ ?_ ?_; kernel_rfl; kernel_rfl; conv => whnf) | (refine ask ?_ ?_; (rw [hcut, hcl]; omega); conv => whnf) | (refine draw_lex hE ?_ ?_; decide +kernel; conv => whnf) | (refine brd (fun h => ?_) (fun h => ?_) <;> conv => whnf) | (refine br (fun h => ?_) (fun h => ?_) <;> conv => whnf) | (refine ret_now hE ?_; conv => whnf) | (intro hlen; conv => whnf) | (refine seg_here ?_; conv => whnf) | (refine both ?_ ?_ <;> conv => whnf))
            all_goals
              refine next_drop [3, 5, 6, 7, 8, 9] [2] (n, i + k + 2, d, now ++ c :: (P.drop (i + 1)).take (k + 1), out) ⟨?_, ?_, ?_, ?_, ?_, hI⟩ (Nat.lt_succ_self n) ?_
              · show i + k + 2 ≤ P.length; omega
              · show (P.drop (i + k + 2)).length < n
                rw [List.length_drop]; rw [List.length_drop] at hlr; omega
              · show (now ++ c :: (P.drop (i + 1)).take (k + 1)).length ≤ i + k + 2
                rw [List.length_append, hcl]; omega
              · show out.length ≤ i + k + 2; omega
              · show d ≤ i + k + 2; omega
              · conv => whnf
                rw [hcut, decl_kill]
                rfl
      · rw [if_neg c1] at hI
        have n1 : ¬ c.toNat = 34 := u8_ne (by decide) (fun h => c1 (.inl h))
        have n2 : ¬ c.toNat = 39 := u8_ne (by decide) (fun h => c1 (.inr h))
        have hnl : (now ++ [c]).length ≤ i + 1 := by rw [List.length_append, List.length_singleton]; omega
        by_cases c2 : c = 40
        · rw [if_pos c2] at hI
          have hcn : c.toNat = 40 := by rw [c2]; rfl
          conv => whnf
          repeat' (first | (refine brd_t (by first | assumption | omega) ?_; conv => whnf) | (refine brd_f (by first | assumption | omega) ?_; conv => whnf) | (refine ask (by first | assumption | omega) ?_; conv => whnf) | (refine fit64 (by omega) ?_; conv => whnf) | (refine fit (by simp only [kmin, kmax]; omega) ?_; conv => whnf) | (refine br_t (by assumption) ?_; conv => whnf) | (refine br_f (by assumption) ?_; conv => whnf) | (refine get_of (by assumption) ?_; conv => whnf) | (refine get_map (by assumption) ?_; conv => whnf) | (refine get_of hx ?_; conv => whnf) | (refine ⟨[c], hv, Nat.le_of_ble_eq_true rfl, ?_⟩; conv => whnf) | (refine ask (Nat.le_refl 1) ?_; conv => whnf) | (refine ask ?_ ?_; (show now.length + 1 ≤ _; omega); conv => whnf) | (refine draw_lex hE ?_ ?_; decide +kernel; conv => whnf) | (refine brd (fun h => ?_) (fun h => ?_) <;> conv => whnf) | (refine br (fun h => ?_) (fun h => ?_) <;> conv => whnf) | (refine ret_now hE ?_; conv => whnf) | (intro hlen; conv => whnf) | (refine seg_here ?_; conv => whnf) | (refine both ?_ ?_ <;> conv => whnf))
          all_goals
            refine next_drop [3, 5, 6, 7, 8, 9] [2] (n, i + 1, d + 1, now ++ [c], out) ⟨hlt, hlr, hnl, Nat.le_succ_of_le hout, Nat.succ_le_succ hd, hI⟩ (Nat.lt_succ_self n) ?_
            conv => whnf
            rw [decl_kill]
            rfl
        · rw [if_neg c2] at hI
          have n3 : ¬ c.toNat = 40 := u8_ne (by decide) c2
          by_cases c3 : c = 41
          · rw [if_pos c3] at hI
            have hcn : c.toNat = 41 := by rw [c3]; rfl
            by_cases d0 : 0 < d
            · have hdc : (d : Int) - 1 = ((d - 1 : Nat) : Int) := by omega
              conv => whnf
              repeat' (first | (refine brd_t (by first | assumption | omega) ?_; conv => whnf) | (refine brd_f (by first | assumption | omega) ?_; conv => whnf) | (refine ask (by first | assumption | omega) ?_; conv => whnf) | (refine fit64 (by omega) ?_; conv => whnf) | (refine fit (by simp only [kmin, kmax]; omega) ?_; conv => whnf) | (refine br_t (by assumption) ?_; conv => whnf) | (refine br_f (by assumption) ?_; conv => whnf) | (refine get_of (by assumption) ?_; conv => whnf) | (refine get_map (by assumption) ?_; conv => whnf) | (refine get_of hx ?_; conv => whnf) | (refine ⟨[c], hv, Nat.le_of_ble_eq_true rfl, ?_⟩; conv => whnf) | (refine ask (Nat.le_refl 1) ?_; conv => whnf) | (refine ask ?_ ?_; (show now.length + 1 ≤ _; omega); conv => whnf) | (refine draw_lex hE ?_ ?_; decide +kernel; conv => whnf) | (refine brd (fun h => ?_) (fun h => ?_) <;> conv => whnf) | (refine br (fun h => ?_) (fun h => ?_) <;> conv => whnf) | (refine ret_now hE ?_; conv => whnf) | (intro hlen; conv => whnf) | (refine seg_here ?_; conv => whnf) | (refine both ?_ ?_ <;> conv => whnf))
              all_goals
                refine next_drop [3, 5, 6, 7, 8, 9] [2] (n, i + 1, d - 1, now ++ [c], out) ⟨hlt, hlr, hnl, Nat.le_succ_of_le hout, by show d - 1 ≤ i + 1; omega, hI⟩ (Nat.lt_succ_self n) ?_
                conv => whnf
                rw [decl_kill, hdc]
                rfl
            · have hd0 : d = 0 := by omega
              subst hd0
              conv => whnf
              repeat' (first | (refine brd_t (by first | assumption | omega) ?_; conv => whnf) | (refine brd_f (by first | assumption | omega) ?_; conv => whnf) | (refine ask (by first | assumption | omega) ?_; conv => whnf) | (refine fit64 (by omega) ?_; conv => whnf) | (refine fit (by simp only [kmin, kmax]; omega) ?_; conv => whnf) | (refine br_t (by assumption) ?_; conv => whnf) | (refine br_f (by assumption) ?_; conv => whnf) | (refine get_of (by assumption) ?_; conv => whnf) | (refine get_map (by assumption) ?_; conv => whnf) | (refine get_of hx ?_; conv => whnf) | (refine ⟨[c], hv, Nat.le_of_ble_eq_true rfl, ?_⟩; conv => whnf) | (refine ask (Nat.le_refl 1) ?_; conv => whnf) | (refine ask ?_ ?_; (show now.length + 1 ≤ _; omega); conv => whnf) | (refine draw_lex hE ?_ ?_; decide +kernel; conv => whnf) | (refine brd (fun h => ?_) (fun h => ?_) <;> conv => whnf) | (refine br (fun h => ?_) (fun h => ?_) <;> conv => whnf) | (refine ret_now hE ?_; conv => whnf) | (intro hlen; conv => whnf) | (refine seg_here ?_; conv => whnf) | (refine both ?_ ?_ <;> conv => whnf))
              all_goals
                refine next_drop [3, 5, 6, 7, 8, 9] [2] (n, i + 1, 0, now ++ [c], out) ⟨hlt, hlr, hnl, Nat.le_succ_of_le hout, Nat.zero_le _, hI⟩ (Nat.lt_succ_self n) ?_
                conv => whnf
                rw [decl_kill]
                rfl
          · rw [if_neg c3] at hI
            have n4 : ¬ c.toNat = 41 := u8_ne (by decide) c3
            by_cases c4 : c = 59 ∧ d = 0
            · rw [if_pos c4] at hI
              obtain ⟨c4, d0⟩ := c4
              have hcn : c.toNat = 59 := by rw [c4]; rfl
              subst d0
              have hI2 : (out ++ (declOf now).toList) ++ (pcsD n 0 [] (P.drop (i + 1))).filterMap declOf = R := by
                rw [← hI, List.filterMap_cons]
                cases declOf now <;> simp
              have hol : (out ++ (declOf now).toList).length ≤ i + 1 := by
                rw [List.length_append]
                have : (declOf now).toList.length ≤ 1 := by cases declOf now <;> simp
                omega
              conv => whnf
              repeat' (first | (refine brd_t (by first | assumption | omega) ?_; conv => whnf) | (refine brd_f (by first | assumption | omega) ?_; conv => whnf) | (refine ask (by first | assumption | omega) ?_; conv => whnf) | (refine fit64 (by omega) ?_; conv => whnf) | (refine fit (by simp only [kmin, kmax]; omega) ?_; conv => whnf) | (refine br_t (by assumption) ?_; conv => whnf) | (refine br_f (by assumption) ?_; conv => whnf) | (refine get_of (by assumption) ?_; conv => whnf) | (refine get_map (by assumption) ?_; conv => whnf) | (refine get_of hx ?_; conv => whnf) | (refine draw_lex hE ?_ ?_; decide +kernel; conv => whnf) | (refine brd (fun h => ?_) (fun h => ?_) <;> conv => whnf) | (refine br (fun h => ?_) (fun h => ?_) <;> conv => whnf) | (refine ret_now hE ?_; conv => whnf) | (intro hlen; conv => whnf) | (refine seg_here ?_; conv => whnf) | (refine both ?_ ?_ <;> conv => whnf))
              refine call_id (h_add now out (by omega) (by omega)) hC (by kernel_rfl) rfl (by simp [rnL, rnV, obA]) ?_ [1] ?_ ?_ (by simp [rnL, rnV]) ?_ rfl ?_
              · intro j o ho
                match j, ho with
                | 0, ho => injection (show some _ = some o from ho) with ho; subst ho; exact ⟨rfl, _, rfl, by simp [rnL, rnV, obA]⟩
                | 1, ho => injection (show some _ = some o from ho) with ho; subst ho; exact ⟨rfl, rnO_nr (nr_decls _)⟩
                | m + 2, ho => simp [obA] at ho
              · intro j hj hn
                simp [obA] at hj hn ⊢
                omega
              · intro j hj
                simp [obA] at hj ⊢
                omega
              · intro j o ho
                match j, ho with
                | 0, ho => injection (show some _ = some o from ho) with ho; subst ho; exact ⟨_, rfl, by simp [rnL, rnV, obA]⟩
                | 1, ho => injection (show some _ = some o from ho) with ho; subst ho; exact rnO_nr (nr_decls _)
                | m + 2, ho => simp [obA] at ho
              conv => whnf
              repeat' (first | (refine brd_t (by first | assumption | omega) ?_; conv => whnf) | (refine brd_f (by first | assumption | omega) ?_; conv => whnf) | (refine ask (by first | assumption | omega) ?_; conv => whnf) | (refine fit64 (by omega) ?_; conv => whnf) | (refine fit (by simp only [kmin, kmax]; omega) ?_; conv => whnf) | (refine br_t (by assumption) ?_; conv => whnf) | (refine br_f (by assumption) ?_; conv => whnf) | (refine get_of (by assumption) ?_; conv => whnf) | (refine get_map (by assumption) ?_; conv => whnf) | (refine draw_lex hE ?_ ?_; decide +kernel; conv => whnf) | (refine brd (fun h => ?_) (fun h => ?_) <;> conv => whnf) | (refine br (fun h => ?_) (fun h => ?_) <;> conv => whnf) | (refine ret_now hE ?_; conv => whnf) | (intro hlen; conv => whnf) | (refine seg_here ?_; conv => whnf) | (refine both ?_ ?_ <;> conv => whnf))
              exact next_keep [3, 5, 6, 7, 8, 9] (n, i + 1, 0, [], out ++ (declOf now).toList) ⟨hlt, hlr, Nat.zero_le _, hol, Nat.zero_le _, hI2⟩ (Nat.lt_succ_self n) rfl
            · rw [if_neg c4] at hI
              have hor : ¬ c.toNat = 59 ∨ 0 < d := by
                by_cases h : c = 59
                · exact .inr (Nat.pos_of_ne_zero fun e => c4 ⟨h, e⟩)
                · exact .inl (u8_ne (by decide) h)
              conv => whnf
              repeat' (first | (refine brd_t (by first | assumption | omega) ?_; conv => whnf) | (refine brd_f (by first | assumption | omega) ?_; conv => whnf) | (refine ask (by first | assumption | omega) ?_; conv => whnf) | (refine fit64 (by omega) ?_; conv => whnf) | (refine fit (by simp only [kmin, kmax]; omega) ?_; conv => whnf) | (refine br_t (by assumption) ?_; conv => whnf) | (refine br_f (by assumption) ?_; conv => whnf) | (refine get_of (by assumption) ?_; conv => whnf) | (refine get_map (by assumption) ?_; conv => whnf) | (refine get_of hx ?_; conv => whnf) | (refine ⟨[c], hv, Nat.le_of_ble_eq_true rfl, ?_⟩; conv => whnf) | (refine ask (Nat.le_refl 1) ?_; conv => whnf) | (refine ask ?_ ?_; (show now.length + 1 ≤ _; omega); conv => whnf) | (refine draw_lex hE ?_ ?_; decide +kernel; conv => whnf) | (refine brd (fun h => ?_) (fun h => ?_) <;> conv => whnf) | (refine br (fun h => ?_) (fun h => ?_) <;> conv => whnf) | (refine ret_now hE ?_; conv => whnf) | (intro hlen; conv => whnf) | (refine seg_here ?_; conv => whnf) | (refine both ?_ ?_ <;> conv => whnf))
              all_goals first
                | (exfalso; omega)
                | (refine next_drop [3, 5, 6, 7, 8, 9] [2] (n, i + 1, d, now ++ [c], out) ⟨hlt, hlr, hnl, Nat.le_succ_of_le hout, Nat.le_succ_of_le hd, hI⟩ (Nat.lt_succ_self n) ?_
                   conv => whnf
                   rw [decl_kill]
                   rfl)
    · have hie : i = P.length := by omega
      subst hie
      rw [List.drop_length] at hI
      have hI2 : out ++ (declOf now).toList = R := by
        rw [← hI]
        show _ = out ++ (List.filterMap declOf [now])
        cases h : declOf now <;> simp [h]
      have hRl := nr_decls R
      rw [← hI2] at hRl ⊢
      conv => whnf
      repeat' (first | (refine brd_t (by first | assumption | omega) ?_; conv => whnf) | (refine brd_f (by first | assumption | omega) ?_; conv => whnf) | (refine ask (by first | assumption | omega) ?_; conv => whnf) | (refine fit64 (by omega) ?_; conv => whnf) | (refine fit (by simp only [kmin, kmax]; omega) ?_; conv => whnf) | (refine br_t (by assumption) ?_; conv => whnf) | (refine br_f (by assumption) ?_; conv => whnf) | (refine get_of (by assumption) ?_; conv => whnf) | (refine get_map (by assumption) ?_; conv => whnf) | (refine draw_lex hE ?_ ?_; decide +kernel; conv => whnf) | (refine brd (fun h => ?_) (fun h => ?_) <;> conv => whnf) | (refine br (fun h => ?_) (fun h => ?_) <;> conv => whnf) | (refine ret_now hE ?_; conv => whnf) | (intro hlen; conv => whnf) | (refine seg_here ?_; conv => whnf) | (refine both ?_ ?_ <;> conv => whnf))
      refine call_id (h_add now out (by omega) (by omega)) hC (by kernel_rfl) rfl (by simp [rnL, rnV, obA]) ?_ [1] ?_ ?_ (by simp [rnL, rnV]) ?_ rfl ?_
      · intro j o ho
        match j, ho with
        | 0, ho => injection (show some _ = some o from ho) with ho; subst ho; exact ⟨rfl, _, rfl, by simp [rnL, rnV, obA]⟩
        | 1, ho => injection (show some _ = some o from ho) with ho; subst ho; exact ⟨rfl, rnO_nr (nr_decls _)⟩
        | m + 2, ho => simp [obA] at ho
      · intro j hj hn
        simp [obA] at hj hn ⊢
        omega
      · intro j hj
        simp [obA] at hj ⊢
        omega
      · intro j o ho
        match j, ho with
        | 0, ho => injection (show some _ = some o from ho) with ho; subst ho; exact ⟨_, rfl, by simp [rnL, rnV, obA]⟩
        | 1, ho => injection (show some _ = some o from ho) with ho; subst ho; exact rnO_nr (nr_decls _)
        | m + 2, ho => simp [obA] at ho
      conv => whnf
      repeat' (first | (refine brd_t (by first | assumption | omega) ?_; conv => whnf) | (refine brd_f (by first | assumption | omega) ?_; conv => whnf) | (refine ask (by first | assumption | omega) ?_; conv => whnf) | (refine fit64 (by omega) ?_; conv => whnf) | (refine fit (by simp only [kmin, kmax]; omega) ?_; conv => whnf) | (refine br_t (by assumption) ?_; conv => whnf) | (refine br_f (by assumption) ?_; conv => whnf) | (refine get_of (by assumption) ?_; conv => whnf) | (refine get_map (by assumption) ?_; conv => whnf) | (refine ret_up (up_frzK 1 2 [] (z := 2) rfl hRl rfl (decls_len _).symm rfl (up_here ?_))) | (refine draw_lex hE ?_ ?_; decide +kernel; conv => whnf) | (refine brd (fun h => ?_) (fun h => ?_) <;> conv => whnf) | (refine br (fun h => ?_) (fun h => ?_) <;> conv => whnf) | (refine ret_now hE ?_; conv => whnf) | (intro hlen; conv => whnf) | (refine seg_here ?_; conv => whnf) | (refine both ?_ ?_ <;> conv => whnf))
      all_goals exact ⟨rfl, rfl⟩
  | cons c r =>
    simp only [List.length_cons] at hn hpt
    have h1 : Int.toNat 1 ≤ (c :: r).length := by simp
    have h0 : 0 < (c :: r).length := by simp
    have hlc : (c :: r).length = r.length + 1 := rfl
    by_cases hp : [47, 42].isPrefixOf (c :: r) = true
    · rw [bareD, if_pos hp] at hI
      cases r with
      | nil => simp [List.isPrefixOf] at hp
      | cons d r =>
      have hcd : c = 47 ∧ d = 42 := by simp [List.isPrefixOf] at hp; exact ⟨hp.1.symm, hp.2.symm⟩
      have hlc2 : (d :: r).length = r.length + 1 := rfl
      have htk : (c :: d :: r).take (Int.toNat 2) = [47, 42] := by rw [hcd.1, hcd.2]; rfl
      have h2 : Int.toNat 2 ≤ (c :: d :: r).length := by simp
      have hpl : Fn1 Tryd.prog 30 [.str (c :: d :: r), .str [42, 47], .int .i64 2] (fun q => q = .int .i64 (plc (c :: d :: r) [42, 47] 2)) := place_of (c :: d :: r) [42, 47] 2 (by simp) (by simp) (by omega) (by simp)
      have hdr : (c :: d :: r).drop 2 = r := rfl
      rw [hdr] at hI
      have hlow := index_low r [42, 47]
      by_cases hm : Lib.index r [42, 47] = -1
      · have hpc : plc (c :: d :: r) [42, 47] 2 = -1 := by unfold plc; rw [hdr, if_pos hm]
        rw [hpc] at hpl
        rw [if_pos hm, List.append_nil] at hI
        subst hI
        conv => whnf
        repeat' (first | (refine brd_t (by first | assumption | omega) ?_; conv => whnf) | (refine brd_f (by first | assumption | omega) ?_; conv => whnf) | (refine ask (by first | assumption | omega) ?_; conv => whnf) | (refine fit64 (by omega) ?_; conv => whnf) | (refine fit (by simp only [kmin, kmax]; omega) ?_; conv => whnf) | (refine br_t (by assumption) ?_; conv => whnf) | (refine br_f (by assumption) ?_; conv => whnf) | (refine get_of (by assumption) ?_; conv => whnf) | (refine get_map (by assumption) ?_; conv => whnf) | (refine call_eq (hpl) hC hasBody_30 ?_ ?_ ?_; kernel_rfl; kernel_rfl; conv => whnf) | (refine callq_eq (hpl) hC hasBody_30 ?_ ?_ ?_; kernel_rfl; kernel_rfl; conv => whnf) | (refine draw_lex hE ?_ ?_; decide +kernel; conv => whnf) | (refine brd (fun h => ?_) (fun h => ?_) <;> conv => whnf) | (refine br (fun h => ?_) (fun h => ?_) <;> conv => whnf) | (refine ret_now hE ?_; conv => whnf) | (intro hlen; conv => whnf) | (refine seg_here ?_; conv => whnf) | (refine both ?_ ?_ <;> conv => whnf))
        generalize hP : bareD (s.length + 1) s = P at *
        refine loopE (fun ((n, i, d, now, out) : Nat × Nat × Nat × List UInt8 × List Dc) => ⟨100, [(3, .str P), (5, .ptr 0 0 0), (6, .fn 43 [.ptr 0 0 0]), (7, .str now), (8, .int .i64 (d : Nat)), (9, .int .i64 (i : Nat))], [some (.row 1 [.sl 1 0 out.length]), some (.row 2 (out.map declA))]⟩)
          (fun (n, i, d, now, out) => i ≤ P.length ∧ (P.drop i).length < n ∧ now.length ≤ i ∧ out.length ≤ i ∧ d ≤ i ∧ out ++ (pcsD n d now (P.drop i)).filterMap declOf = R) (fun (n, _) => n) (P.length + 1, 0, 0, [], []) hE ?_ ?_ ⟨Nat.zero_le _, Nat.lt_succ_self _, Nat.le_refl _, Nat.le_refl _, Nat.le_refl _, hR⟩ ?_
        · kernel_rfl
        · exact up_ownf 0 2 (x' := .sl 1 0 0) rfl (ownC_at 1 [] []) rfl (at_keep [3, 5, 6, 7, 8, 9] rfl)
        rintro ⟨n, i, d, now, out⟩ ⟨hi, hn, hnow, hout, hd, hI⟩
        replace hi : i ≤ P.length := hi
        replace hn : (P.drop i).length < n := hn
        replace hnow : now.length ≤ i := hnow
        replace hout : out.length ≤ i := hout
        replace hd : d ≤ i := hd
        replace hI : out ++ (pcsD n d now (P.drop i)).filterMap declOf = R := hI
        have hin : ((i : Int)).toNat = i := by omega
        cases n with
        | zero => omega
        | succ n =>
        by_cases hlt : i < P.length
        · obtain ⟨c, hx⟩ : ∃ c, P[i]? = some c := ⟨_, List.getElem?_eq_getElem hlt⟩
          have hc := c.toNat_lt
          have hdr : P.drop i = c :: P.drop (i + 1) := by
            obtain ⟨hl, rfl⟩ := List.getElem?_eq_some_iff.1 hx
            exact List.drop_eq_getElem_cons hl
          have hlr : (P.drop (i + 1)).length < n := by rw [hdr] at hn; simp only [List.length_cons] at hn; omega
          rw [hdr, pcsD] at hI
          have hv : [V.int .u8 (c.toNat : Int)] = [c].map byteV := rfl
          by_cases c1 : c = 34 ∨ c = 39
          · rw [if_pos c1] at hI
            have hcn : c.toNat = 34 ∨ c.toNat = 39 := by rcases c1 with h | h <;> rw [h] <;> decide
            have hpl : Fn1 Tryd.prog 30 [.str P, .str [c], .int .i64 ((i : Int) + 1)] (fun r => r = .int .i64 (plc P [c] (i + 1))) := place_of P [c] (i + 1) (by simp) (by omega) (by omega) (by simp)
            have hlow := index_low (P.drop (i + 1)) [c]
            by_cases hm : Lib.index (P.drop (i + 1)) [c] = -1
            · have hpc : plc P [c] (i + 1) = -1 := by unfold plc; rw [if_pos hm]
              rw [hpc] at hpl
              rw [if_pos hm, ← hdr] at hI
              have hcut : (P.take ((P.length : Int) - 1 + 1).toNat).drop ((i : Int)).toNat = P.drop i := by
                rw [show ((P.length : Int) - 1 + 1).toNat = P.length by omega, hin, List.take_length]
              have hfin : pcsD n d (now ++ P.drop i) (P.drop P.length) = [now ++ P.drop i] := by
                rw [List.drop_length]; cases n <;> rfl
              have hI2 : out ++ (pcsD n d (now ++ P.drop i) (P.drop P.length)).filterMap declOf = R := by rw [hfin]; exact hI
              rcases hcn with hcn | hcn
              all_goals
                conv => whnf
                repeat' (first | (refine brd_t (by first | assumption | omega) ?_; conv => whnf) | (refine brd_f (by first | assumption | omega) ?_; conv => whnf) | (refine ask (by first | assumption | omega) ?_; conv => whnf) | (refine fit64 (by omega) ?_; conv => whnf) | (refine fit (by simp only [kmin, kmax]; omega) ?_; conv => whnf) | (refine br_t (by assumption) ?_; conv => whnf) | (refine br_f (by assumption) ?_; conv => whnf) | (refine get_of (by assumption) ?_; conv => whnf) | (refine get_map (by assumption) ?_; conv => whnf) | (refine get_of hx ?_; conv => whnf) | (refine ⟨[c], hv, Nat.le_of_ble_eq_true rfl, ?_⟩; conv => whnf) | (refine ask (Nat.le_refl 1) ?_; conv => whnf) | (refine call_eq (hpl) hC hasBody_30 ?_ ?_ ?_; kernel_rfl; kernel_rfl; conv => whnf) | (refine callq_eq (hpl) hC hasBody_30 ?_ ?_ ?_; kernel_rfl; kernel_rfl; conv => whnf) | (refine ask ?_ ?_; (rw [hcut, List.length_drop]; omega); conv => whnf) | (refine draw_lex hE ?_ ?_; decide +kernel; conv => whnf) | (refine brd (fun h => ?_) (fun h => ?_) <;> conv => whnf) | (refine br (fun h => ?_) (fun h => ?_) <;> conv => whnf) | (refine ret_now hE ?_; conv => whnf) | (intro hlen; conv => whnf) | (refine seg_here ?_; conv => whnf) | (refine both ?_ ?_ <;> conv => whnf))
                all_goals
                  refine next_drop [3, 5, 6, 7, 8, 9] [2] (n, P.length, d, now ++ P.drop i, out) ⟨Nat.le_refl _, ?_, ?_, ?_, ?_, hI2⟩ (Nat.lt_succ_self n) ?_
                  · rw [List.drop_length]; exact Nat.zero_lt_of_lt hlr
                  · show (now ++ P.drop i).length ≤ P.length
                    rw [List.length_append, List.length_drop]; omega
                  · show out.length ≤ P.length; omega
                  · show d ≤ P.length; omega
                  · conv => whnf
                    rw [hcut, decl_kill, show (P.length : Int) - 1 + 1 = P.length by omega]
                    rfl
            · obtain ⟨k, hk⟩ : ∃ k : Nat, Lib.index (P.drop (i + 1)) [c] = k := ⟨(Lib.index (P.drop (i + 1)) [c]).toNat, by omega⟩
              have hroom := index_room (by simp) (P.drop (i + 1)) (show 0 ≤ Lib.index (P.drop (i + 1)) [c] by omega)
              have hpc : plc P [c] (i + 1) = ((i + k + 1 : Nat) : Int) := by unfold plc; rw [if_neg hm, hk]; push_cast; omega
              rw [hpc] at hpl
              rw [if_neg hm, hk] at hI
              rw [hk] at hroom
              simp only [List.length_singleton, List.length_drop] at hroom
              have ek : ((k : Int)).toNat = k := by omega
              rw [ek] at hI hroom
              have hcut : (P.take (((i + k + 1 : Nat) : Int) + 1).toNat).drop ((i : Int)).toNat = c :: (P.drop (i + 1)).take (k + 1) := by
                rw [show (((i + k + 1 : Nat) : Int) + 1).toNat = i + (k + 2) by omega, hin, cut_at, hdr, List.take_succ_cons]
              have hdd : (P.drop (i + 1)).drop (k + 1) = P.drop (i + k + 2) := by
                rw [List.drop_drop]; congr 1; omega
              rw [hdd] at hI
              have hcl : (c :: (P.drop (i + 1)).take (k + 1)).length = k + 2 := by
                simp only [List.length_cons, List.length_take, List.length_drop]; omega
              rcases hcn with hcn | hcn
              all_goals
                conv => whnf
                repeat' (first | (refine brd_t (by first | assumption | omega) ?_; conv => whnf) | (refine brd_f (by first | assumption | omega) ?_; conv => whnf) | (refine ask (by first | assumption | omega) ?_; conv => whnf) | (refine fit64 (by omega) ?_; conv => whnf) | (refine fit (by simp only [kmin, kmax]; omega) ?_; conv => whnf) | (refine br_t (by assumption) ?_; conv => whnf) | (refine br_f (by assumption) ?_; conv => whnf) | (refine get_of (by assumption) ?_; conv => whnf) | (refine get_map (by assumption) ?_; conv => whnf) | (refine get_of hx ?_; conv => whnf) | (refine ⟨[c], hv, Nat.le_of_ble_eq_true rfl, ?_⟩; conv => whnf) | (refine ask (Nat.le_refl 1) ?_; conv => whnf) | (refine call_eq (hpl) hC hasBody_30 ?_ ?_ ?_; kernel_rfl; kernel_rfl; conv => whnf) | (refine callq_eq (hpl) hC hasBody_30 ?_ ?_ ?_; kernel_rfl; kernel_rfl; conv => whnf) | (refine ask ?_ ?_; (rw [hcut, hcl]; omega); conv => whnf) | (refine draw_lex hE ?_ ?_; decide +kernel; conv => whnf) | (refine brd (fun h => ?_) (fun h => ?_) <;> conv => whnf) | (refine br (fun h => ?_) (fun h => ?_) <;> conv => whnf) | (refine ret_now hE ?_; conv => whnf) | (intro hlen; conv => whnf) | (refine seg_here ?_; conv => whnf) | (refine both ?_ ?_ <;> conv => whnf))
                all_goals
                  refine next_drop [3, 5, 6, 7, 8, 9] [2] (n, i + k + 2, d, now ++ c :: (P.drop (i + 1)).take (k + 1), out) ⟨?_, ?_, ?_, ?_, ?_, hI⟩ (Nat.lt_succ_self n) ?_
                  · show i + k + 2 ≤ P.length; omega
                  · show (P.drop (i + k + 2)).length < n
                    rw [List.length_drop]; rw [List.length_drop] at hlr; omega
                  · show (now ++ c :: (P.drop (i + 1)).take (k + 1)).length ≤ i + k + 2
                    rw [List.length_append, hcl]; omega
                  · show out.length ≤ i + k + 2; omega
                  · show d ≤ i + k + 2; omega
                  · conv => whnf
                    rw [hcut, decl_kill]
                    rfl
          · rw [if_neg c1] at hI
            have n1 : ¬ c.toNat = 34 := u8_ne (by decide) (fun h => c1 (.inl h))
            have n2 : ¬ c.toNat = 39 := u8_ne (by decide) (fun h => c1 (.inr h))
            have hnl : (now ++ [c]).length ≤ i + 1 := by rw [List.length_append, List.length_singleton]; omega
            by_cases c2 : c = 40
            · rw [if_pos c2] at hI
              have hcn : c.toNat = 40 := by rw [c2]; rfl
              conv => whnf
              repeat' (first | (refine brd_t (by first | assumption | omega) ?_; conv => whnf) | (refine brd_f (by first | assumption | omega) ?_; conv => whnf) | (refine ask (by first | assumption | omega) ?_; conv => whnf) | (refine fit64 (by omega) ?_; conv => whnf) | (refine fit (by simp only [kmin, kmax]; omega) ?_; conv => whnf) | (refine br_t (by assumption) ?_; conv => whnf) | (refine br_f (by assumption) ?_; conv => whnf) | (refine get_of (by assumption) ?_; conv => whnf) | (refine get_map (by assumption) ?_; conv => whnf) | (refine get_of hx ?_; conv => whnf) | (refine ⟨[c], hv, Nat.le_of_ble_eq_true rfl, ?_⟩; conv => whnf) | (refine ask (Nat.le_refl 1) ?_; conv => whnf) | (refine ask ?_ ?_; (show now.length + 1 ≤ _; omega); conv => whnf) | (refine draw_lex hE ?_ ?_; decide +kernel; conv => whnf) | (refine brd (fun h => ?_) (fun h => ?_) <;> conv => whnf) | (refine br (fun h => ?_) (fun h => ?_) <;> conv => whnf) | (refine ret_now hE ?_; conv => whnf) | (intro hlen; conv => whnf) | (refine seg_here ?_; conv => whnf) | (refine both ?_ ?_ <;> conv => whnf))
              all_goals
                refine next_drop [3, 5, 6, 7, 8, 9] [2] (n, i + 1, d + 1, now ++ [c], out) ⟨hlt, hlr, hnl, Nat.le_succ_of_le hout, Nat.succ_le_succ hd, hI⟩ (Nat.lt_succ_self n) ?_
                conv => whnf
                rw [decl_kill]
                rfl
            · rw [if_neg c2] at hI
              have n3 : ¬ c.toNat = 40 := u8_ne (by decide) c2
              by_cases c3 : c = 41
              · rw [if_pos c3] at hI
                have hcn : c.toNat = 41 := by rw [c3]; rfl
                by_cases d0 : 0 < d
                · have hdc : (d : Int) - 1 = ((d - 1 : Nat) : Int) := by omega
                  conv => whnf
                  repeat' (first | (refine brd_t (by first | assumption | omega) ?_; conv => whnf) | (refine brd_f (by first | assumption | omega) ?_; conv => whnf) | (refine ask (by first | assumption | omega) ?_; conv => whnf) | (refine fit64 (by omega) ?_; conv => whnf) | (refine fit (by simp only [kmin, kmax]; omega) ?_; conv => whnf) | (refine br_t (by assumption) ?_; conv => whnf) | (refine br_f (by assumption) ?_; conv => whnf) | (refine get_of (by assumption) ?_; conv => whnf) | (refine get_map (by assumption) ?_; conv => whnf) | (refine get_of hx ?_; conv => whnf) | (refine ⟨[c], hv, Nat.le_of_ble_eq_true rfl, ?_⟩; conv => whnf) | (refine ask (Nat.le_refl 1) ?_; conv => whnf) | (refine ask ?_ ?_; (show now.length + 1 ≤ _; omega); conv => whnf) | (refine draw_lex hE ?_ ?_; decide +kernel; conv => whnf) | (refine brd (fun h => ?_) (fun h => ?_) <;> conv => whnf) | (refine br (fun h => ?_) (fun h => ?_) <;> conv => whnf) | (refine ret_now hE ?_; conv => whnf) | (intro hlen; conv => whnf) | (refine seg_here ?_; conv => whnf) | (refine both ?_ ?_ <;> conv => whnf))
                  all_goals
                    refine next_drop [3, 5, 6, 7, 8, 9] [2] (n, i + 1, d - 1, now ++ [c], out) ⟨hlt, hlr, hnl, Nat.le_succ_of_le hout, by show d - 1 ≤ i + 1; omega, hI⟩ (Nat.lt_succ_self n) ?_
                    conv => whnf
                    rw [decl_kill, hdc]
                    rfl
                · have hd0 : d = 0 := by omega
                  subst hd0
                  conv => whnf
                  repeat' (first | (refine brd_t (by first | assumption | omega) ?_; conv => whnf) | (refine brd_f (by first | assumption | omega) ?_; conv => whnf) | (refine ask (by first | assumption | omega) ?_; conv => whnf) | (refine fit64 (by omega) ?_; conv => whnf) | (refine fit (by simp only [kmin, kmax]; omega) ?_; conv => whnf) | (refine br_t (by assumption) ?_; conv => whnf) | (refine br_f (by assumption) ?_; conv => whnf) | (refine get_of (by assumption) ?_; conv => whnf) | (refine get_map (by assumption) ?_; conv => whnf) | (refine get_of hx ?_; conv => whnf) | (refine ⟨[c], hv, Nat.le_of_ble_eq_true rfl, ?_⟩; conv => whnf) | (refine ask (Nat.le_refl 1) ?_; conv => whnf) | (refine ask ?_ ?_; (show now.length + 1 ≤ _; omega); conv => whnf) | (refine draw_lex hE ?_ ?_; decide +kernel; conv => whnf) | (refine brd (fun h => ?_) (fun h => ?_) <;> conv => whnf) | (refine br (fun h => ?_) (fun h => ?_) <;> conv => whnf) | (refine ret_now hE ?_; conv => whnf) | (intro hlen; conv => whnf) | (refine seg_here ?_; conv => whnf) | (refine both ?_ ?_ <;> conv => whnf))
                  all_goals
                    refine next_drop [3, 5, 6, 7, 8, 9] [2] (n, i + 1, 0, now ++ [c], out) ⟨hlt, hlr, hnl, Nat.le_succ_of_le hout, Nat.zero_le _, hI⟩ (Nat.lt_succ_self n) ?_
                    conv => whnf
                    rw [decl_kill]
                    rfl
              · rw [if_neg c3] at hI
                have n4 : ¬ c.toNat = 41 := u8_ne (by decide) c3
                by_cases c4 : c = 59 ∧ d = 0
                · rw [if_pos c4] at hI
                  obtain ⟨c4, d0⟩ := c4
                  have hcn : c.toNat = 59 := by rw [c4]; rfl
                  subst d0
                  have hI2 : (out ++ (declOf now).toList) ++ (pcsD n 0 [] (P.drop (i + 1))).filterMap declOf = R := by
                    rw [← hI, List.filterMap_cons]
                    cases declOf now <;> simp
                  have hol : (out ++ (declOf now).toList).length ≤ i + 1 := by
                    rw [List.length_append]
                    have : (declOf now).toList.length ≤ 1 := by cases declOf now <;> simp
                    omega
                  conv => whnf
                  repeat' (first | (refine brd_t (by first | assumption | omega) ?_; conv => whnf) | (refine brd_f (by first | assumption | omega) ?_; conv => whnf) | (refine ask (by first | assumption | omega) ?_; conv => whnf) | (refine fit64 (by omega) ?_; conv => whnf) | (refine fit (by simp only [kmin, kmax]; omega) ?_; conv => whnf) | (refine br_t (by assumption) ?_; conv => whnf) | (refine br_f (by assumption) ?_; conv => whnf) | (refine get_of (by assumption) ?_; conv => whnf) | (refine get_map (by assumption) ?_; conv => whnf) | (refine get_of hx ?_; conv => whnf) | (refine draw_lex hE ?_ ?_; decide +kernel; conv => whnf) | (refine brd (fun h => ?_) (fun h => ?_) <;> conv => whnf) | (refine br (fun h => ?_) (fun h => ?_) <;> conv => whnf) | (refine ret_now hE ?_; conv => whnf) | (intro hlen; conv => whnf) | (refine seg_here ?_; conv => whnf) | (refine both ?_ ?_ <;> conv => whnf))
                  refine call_id (h_add now out (by omega) (by omega)) hC (by kernel_rfl) rfl (by simp [rnL, rnV, obA]) ?_ [1] ?_ ?_ (by simp [rnL, rnV]) ?_ rfl ?_
                  · intro j o ho
                    match j, ho with
                    | 0, ho => injection (show some _ = some o from ho) with ho; subst ho; exact ⟨rfl, _, rfl, by simp [rnL, rnV, obA]⟩
                    | 1, ho => injection (show some _ = some o from ho) with ho; subst ho; exact ⟨rfl, rnO_nr (nr_decls _)⟩
                    | m + 2, ho => simp [obA] at ho
                  · intro j hj hn
                    simp [obA] at hj hn ⊢
                    omega
                  · intro j hj
                    simp [obA] at hj ⊢
                    omega
                  · intro j o ho
                    match j, ho with
                    | 0, ho => injection (show some _ = some o from ho) with ho; subst ho; exact ⟨_, rfl, by simp [rnL, rnV, obA]⟩
                    | 1, ho => injection (show some _ = some o from ho) with ho; subst ho; exact rnO_nr (nr_decls _)
                    | m + 2, ho => simp [obA] at ho
                  conv => whnf
                  repeat' (first | (refine brd_t (by first | assumption | omega) ?_; conv => whnf) | (refine brd_f (by first | assumption | omega) ?_; conv => whnf) | (refine ask (by first | assumption | omega) ?_; conv => whnf) | (refine fit64 (by omega) ?_; conv => whnf) | (refine fit (by simp only [kmin, kmax]; omega) ?_; conv => whnf) | (refine br_t (by assumption) ?_; conv => whnf) | (refine br_f (by assumption) ?_; conv => whnf) | (refine get_of (by assumption) ?_; conv => whnf) | (refine get_map (by assumption) ?_; conv => whnf) | (refine draw_lex hE ?_ ?_; decide +kernel; conv => whnf) | (refine brd (fun h => ?_) (fun h => ?_) <;> conv => whnf) | (refine br (fun h => ?_) (fun h => ?_) <;> conv => whnf) | (refine ret_now hE ?_; conv => whnf) | (intro hlen; conv => whnf) | (refine seg_here ?_; conv => whnf) | (refine both ?_ ?_ <;> conv => whnf))
                  exact next_keep [3, 5, 6, 7, 8, 9] (n, i + 1, 0, [], out ++ (declOf now).toList) ⟨hlt, hlr, Nat.zero_le _, hol, Nat.zero_le _, hI2⟩ (Nat.lt_succ_self n) rfl
                · rw [if_neg c4] at hI
                  have hor : ¬ c.toNat = 59 ∨ 0 < d := by
                    by_cases h : c = 59
                    · exact .inr (Nat.pos_of_ne_zero fun e => c4 ⟨h, e⟩)
                    · exact .inl (u8_ne (by decide) h)
                  conv => whnf
                  repeat' (first | (refine brd_t (by first | assumption | omega) ?_; conv => whnf) | (refine brd_f (by first | assumption | omega) ?_; conv => whnf) | (refine ask (by first | assumption | omega) ?_; conv => whnf) | (refine fit64 (by omega) ?_; conv => whnf) | (refine fit (by simp only [kmin, kmax]; omega) ?_; conv => whnf) | (refine br_t (by assumption) ?_; conv => whnf) | (refine br_f (by assumption) ?_; conv => whnf) | (refine get_of (by assumption) ?_; conv => whnf) | (refine get_map (by assumption) ?_; conv => whnf) | (refine get_of hx ?_; conv => whnf) | (refine ⟨[c], hv, Nat.le_of_ble_eq_true rfl, ?_⟩; conv => whnf) | (refine ask (Nat.le_refl 1) ?_; conv => whnf) | (refine ask ?_ ?_; (show now.length + 1 ≤ _; omega); conv => whnf) | (refine draw_lex hE ?_ ?_; decide +kernel; conv => whnf) | (refine brd (fun h => ?_) (fun h => ?_) <;> conv => whnf) | (refine br (fun h => ?_) (fun h => ?_) <;> conv => whnf) | (refine ret_now hE ?_; conv => whnf) | (intro hlen; conv => whnf) | (refine seg_here ?_; conv => whnf) | (refine both ?_ ?_ <;> conv => whnf))
                  all_goals first
                    | (exfalso; omega)
                    | (refine next_drop [3, 5, 6, 7, 8, 9] [2] (n, i + 1, d, now ++ [c], out) ⟨hlt, hlr, hnl, Nat.le_succ_of_le hout, Nat.le_succ_of_le hd, hI⟩ (Nat.lt_succ_self n) ?_
                       conv => whnf
                       rw [decl_kill]
                       rfl)
        · have hie : i = P.length := by omega
          subst hie
          rw [List.drop_length] at hI
          have hI2 : out ++ (declOf now).toList = R := by
            rw [← hI]
            show _ = out ++ (List.filterMap declOf [now])
            cases h : declOf now <;> simp [h]
          have hRl := nr_decls R
          rw [← hI2] at hRl ⊢
          conv => whnf
          repeat' (first | (refine brd_t (by first | assumption | omega) ?_; conv => whnf) | (refine brd_f (by first | assumption | omega) ?_; conv => whnf) | (refine ask (by first | assumption | omega) ?_; conv => whnf) | (refine fit64 (by omega) ?_; conv => whnf) | (refine fit (by simp only [kmin, kmax]; omega) ?_; conv => whnf) | (refine br_t (by assumption) ?_; conv => whnf) | (refine br_f (by assumption) ?_; conv => whnf) | (refine get_of (by assumption) ?_; conv => whnf) | (refine get_map (by assumption) ?_; conv => whnf) | (refine draw_lex hE ?_ ?_; decide +kernel; conv => whnf) | (refine brd (fun h => ?_) (fun h => ?_) <;> conv => whnf) | (refine br (fun h => ?_) (fun h => ?_) <;> conv => whnf) | (refine ret_now hE ?_; conv => whnf) | (intro hlen; conv => whnf) | (refine seg_here ?_; conv => whnf) | (refine both ?_ ?_ <;> conv => whnf))
          refine call_id (h_add now out (by omega) (by omega)) hC (by kernel_rfl) rfl (by simp [rnL, rnV, obA]) ?_ [1] ?_ ?_ (by simp [rnL, rnV]) ?_ rfl ?_
          · intro j o ho
            match j, ho with
            | 0, ho => injection (show some _ = some o from ho) with ho; subst ho; exact ⟨rfl, _, rfl, by simp [rnL, rnV, obA]⟩
            | 1, ho => injection (show some _ = some o from ho) with ho; subst ho; exact ⟨rfl, rnO_nr (nr_decls _)⟩
            | m + 2, ho => simp [obA] at ho
          · intro j hj hn
            simp [obA] at hj hn ⊢
            omega
          · intro j hj
            simp [obA] at hj ⊢
            omega
          · intro j o ho
            match j, ho with
            | 0, ho => injection (show some _ = some o from ho) with ho; subst ho; exact ⟨_, rfl, by simp [rnL, rnV, obA]⟩
            | 1, ho => injection (show some _ = some o from ho) with ho; subst ho; exact rnO_nr (nr_decls _)
            | m + 2, ho => simp [obA] at ho
          conv => whnf
          repeat' (first | (refine brd_t (by first | assumption | omega) ?_; conv => whnf) | (refine brd_f (by first | assumption | omega) ?_; conv => whnf) | (refine ask (by first | assumption | omega) ?_; conv => whnf) | (refine fit64 (by omega) ?_; conv => whnf) | (refine fit (by simp only [kmin, kmax]; omega) ?_; conv => whnf) | (refine br_t (by assumption) ?_; conv => whnf) | (refine br_f (by assumption) ?_; conv => whnf) | (refine get_of (by assumption) ?_; conv => whnf) | (refine get_map (by assumption) ?_; conv => whnf) | (refine ret_up (up_frzK 1 2 [] (z := 2) rfl hRl rfl (decls_len _).symm rfl (up_here ?_))) | (refine draw_lex hE ?_ ?_; decide +kernel; conv => whnf) | (refine brd (fun h => ?_) (fun h => ?_) <;> conv => whnf) | (refine br (fun h => ?_) (fun h => ?_) <;> conv => whnf) | (refine ret_now hE ?_; conv => whnf) | (intro hlen; conv => whnf) | (refine seg_here ?_; conv => whnf) | (refine both ?_ ?_ <;> conv => whnf))
          all_goals exact ⟨rfl, rfl⟩
      · obtain ⟨k, hk⟩ : ∃ k : Nat, Lib.index r [42, 47] = k := ⟨(Lib.index r [42, 47]).toNat, by omega⟩
        have hroom := index_room (by simp) r (show 0 ≤ Lib.index r [42, 47] by omega)
        have hpc : plc (c :: d :: r) [42, 47] 2 = ((k + 2 : Nat) : Int) := by unfold plc; rw [hdr, if_neg hm, hk]; push_cast; omega
        rw [hpc] at hpl
        rw [if_neg hm, hk] at hI
        rw [hk] at hroom
        have ek : ((k : Int)).toNat = k := by omega
        have e2 : ([42, 47] : List UInt8).length = 2 := rfl
        rw [ek] at hI hroom
        rw [e2] at hroom
        have hcut : (c :: d :: r).drop (((k + 2 : Nat) : Int) + 2).toNat = r.drop (k + 2) := by
          rw [show (((k + 2 : Nat) : Int) + 2).toNat = k + 2 + 1 + 1 by omega]
          rfl
        have hle : (((k + 2 : Nat) : Int) + 2).toNat ≤ (c :: d :: r).length := by omega
        conv => whnf
        repeat' (first | (refine brd_t (by first | assumption | omega) ?_; conv => whnf) | (refine brd_f (by first | assumption | omega) ?_; conv => whnf) | (refine ask (by first | assumption | omega) ?_; conv => whnf) | (refine fit64 (by omega) ?_; conv => whnf) | (refine fit (by simp only [kmin, kmax]; omega) ?_; conv => whnf) | (refine br_t (by assumption) ?_; conv => whnf) | (refine br_f (by assumption) ?_; conv => whnf) | (refine get_of (by assumption) ?_; conv => whnf) | (refine get_map (by assumption) ?_; conv => whnf) | (refine call_eq (hpl) hC hasBody_30 ?_ ?_ ?_; kernel_rfl; kernel_rfl; conv => whnf) | (refine callq_eq (hpl) hC hasBody_30 ?_ ?_ ?_; kernel_rfl; kernel_rfl; conv => whnf) | (refine draw_lex hE ?_ ?_; decide +kernel; conv => whnf) | (refine brd (fun h => ?_) (fun h => ?_) <;> conv => whnf) | (refine br (fun h => ?_) (fun h => ?_) <;> conv => whnf) | (refine ret_now hE ?_; conv => whnf) | (intro hlen; conv => whnf) | (refine seg_here ?_; conv => whnf) | (refine both ?_ ?_ <;> conv => whnf))
        refine next_keep [0, 3] (n, r.drop (k + 2), p) ⟨?_, ?_, hI⟩ (Nat.lt_succ_self n) ?_
        · show (r.drop (k + 2)).length < n
          rw [List.length_drop]; omega
        · show p.length + (r.drop (k + 2)).length ≤ s.length
          rw [List.length_drop]; omega
        · conv => whnf
          rw [hcut]
    · rw [bareD_no hp] at hI
      have hnp : ¬ ((c :: r).take (Int.toNat 2) = [47, 42]) := by
        intro e
        apply hp
        rw [pre_eq]
        exact e
      have hI2 : (p ++ (c :: r).take (Int.toNat 1)) ++ bareD n r = bareD (s.length + 1) s := by
        rw [← hI]
        show (p ++ [c]) ++ _ = _
        simp
      have hl2 : r.length = 0 ∨ Int.toNat 2 ≤ (c :: r).length := by
        cases r with
        | nil => exact .inl rfl
        | cons d r => exact .inr (by simp)
      rcases hl2 with hl2 | hl2
      all_goals
        conv => whnf
        repeat' (first | (refine brd_t (by first | assumption | omega) ?_; conv => whnf) | (refine brd_f (by first | assumption | omega) ?_; conv => whnf) | (refine ask (by first | assumption | omega) ?_; conv => whnf) | (refine fit64 (by omega) ?_; conv => whnf) | (refine fit (by simp only [kmin, kmax]; omega) ?_; conv => whnf) | (refine br_t (by assumption) ?_; conv => whnf) | (refine br_f (by assumption) ?_; conv => whnf) | (refine get_of (by assumption) ?_; conv => whnf) | (refine get_map (by assumption) ?_; conv => whnf) | (refine ask ?_ ?_; (show p.length + 1 ≤ _; omega); conv => whnf) | (refine draw_lex hE ?_ ?_; decide +kernel; conv => whnf) | (refine brd (fun h => ?_) (fun h => ?_) <;> conv => whnf) | (refine br (fun h => ?_) (fun h => ?_) <;> conv => whnf) | (refine ret_now hE ?_; conv => whnf) | (intro hlen; conv => whnf) | (refine seg_here ?_; conv => whnf) | (refine both ?_ ?_ <;> conv => whnf))
        all_goals
          refine next_keep [0, 3] (n, r, p ++ (c :: r).take (Int.toNat 1)) ⟨by show r.length < n; omega, ?_, hI2⟩ (Nat.lt_succ_self n) rfl
          show (p ++ [c]).length + r.length ≤ s.length
          rw [List.length_append, List.length_singleton]; omega
end Go.Proofs.YtaeeceabnkgnnaaDoor

/-! style.Parse and the document's answer, and their likeness. No conditions. -/
namespace Go.Proofs.YtaeeceabnkgnnaaDoor
open Go.RowKit

theorem same_decls (l : List (List UInt8 × List UInt8)) : Fn1 Tryd.prog 10 [.lst (l.map declA), .lst (l.map declA)] (fun r => r = .bool true) := by
  have hlm : (l.map declA).length = l.length := by simp
  refine fn1E (T := Tryd.tt) Tryd.func10 rfl tt_all follows_all ?_ ?_ fun C hC hE => ?_
  · kernel_rfl
  · exact Nat.le_of_ble_eq_true (by kernel_rfl)
  conv => whnf
  repeat' (first | (refine brd_t (by first | assumption | omega) ?_; conv => whnf) | (refine brd_f (by first | assumption | omega) ?_; conv => whnf) | (refine ask (by first | assumption | omega) ?_; conv => whnf) | (refine fit64 (by omega) ?_; conv => whnf) | (refine fit (by simp only [kmin, kmax]; omega) ?_; conv => whnf) | (refine br_t (by assumption) ?_; conv => whnf) | (refine br_f (by assumption) ?_; conv => whnf) | (refine get_of (by assumption) ?_; conv => whnf) | (refine get_map (by assumption) ?_; conv => whnf) | (refine draw_lex hE ?_ ?_; decide +kernel; conv => whnf) | (refine draw_any hE [⟨0, [(0, none), (1, none), (2, none), (3, none), (4, none), (5, none), (6, none), (7, none), (8, none)], none, [], [[]]⟩] ?_ ?_; decide +kernel; conv => whnf) | (refine brd (fun h => ?_) (fun h => ?_) <;> conv => whnf) | (refine br (fun h => ?_) (fun h => ?_) <;> conv => whnf) | (refine ret_now hE ?_; conv => whnf) | (intro hlen; conv => whnf) | (refine seg_here ?_; conv => whnf) | (refine both ?_ ?_ <;> conv => whnf))
  refine loopE (fun k : Nat => ⟨26, [(0, .lst (l.map declA)), (1, .lst (l.map declA)), (12, .int .i64 (l.map declA).length), (13, .int .i64 k)], []⟩) (fun k => k ≤ l.length) (fun k => l.length - k) 0 hE ?_ ?_ (Nat.zero_le _) ?_
  · kernel_rfl
  · exact at_keep [0, 1, 12, 13] rfl
  intro k hk
  by_cases hlt : k < l.length
  · obtain ⟨x, hx⟩ : ∃ x, l[k]? = some x := ⟨_, List.getElem?_eq_getElem hlt⟩
    conv => whnf
    repeat' (first | (refine brd_t (by first | assumption | omega) ?_; conv => whnf) | (refine brd_f (by first | assumption | omega) ?_; conv => whnf) | (refine ask (by first | assumption | omega) ?_; conv => whnf) | (refine fit64 (by omega) ?_; conv => whnf) | (refine fit (by simp only [kmin, kmax]; omega) ?_; conv => whnf) | (refine br_t (by assumption) ?_; conv => whnf) | (refine br_f (by assumption) ?_; conv => whnf) | (refine get_of (by assumption) ?_; conv => whnf) | (refine get_map (by assumption) ?_; conv => whnf) | (refine draw_lex hE ?_ ?_; decide +kernel; conv => whnf) | (refine draw_any hE [⟨0, [(0, none), (1, none), (2, none), (3, none), (4, none), (5, none), (6, none), (7, none), (8, none)], none, [], [[]]⟩] ?_ ?_; decide +kernel; conv => whnf) | (refine brd (fun h => ?_) (fun h => ?_) <;> conv => whnf) | (refine br (fun h => ?_) (fun h => ?_) <;> conv => whnf) | (refine ret_now hE ?_; conv => whnf) | (intro hlen; conv => whnf) | (refine seg_here ?_; conv => whnf) | (refine both ?_ ?_ <;> conv => whnf))
    all_goals first | exact next_keep [0, 1, 12, 13] (k + 1) hlt (by omega) rfl | (exfalso; simp_all; done)
  · conv => whnf
    repeat' (first | (refine brd_t (by first | assumption | omega) ?_; conv => whnf) | (refine brd_f (by first | assumption | omega) ?_; conv => whnf) | (refine ask (by first | assumption | omega) ?_; conv => whnf) | (refine fit64 (by omega) ?_; conv => whnf) | (refine fit (by simp only [kmin, kmax]; omega) ?_; conv => whnf) | (refine br_t (by assumption) ?_; conv => whnf) | (refine br_f (by assumption) ?_; conv => whnf) | (refine get_of (by assumption) ?_; conv => whnf) | (refine get_map (by assumption) ?_; conv => whnf) | (refine draw_lex hE ?_ ?_; decide +kernel; conv => whnf) | (refine draw_any hE [⟨0, [(0, none), (1, none), (2, none), (3, none), (4, none), (5, none), (6, none), (7, none), (8, none)], none, [], [[]]⟩] ?_ ?_; decide +kernel; conv => whnf) | (refine brd (fun h => ?_) (fun h => ?_) <;> conv => whnf) | (refine br (fun h => ?_) (fun h => ?_) <;> conv => whnf) | (refine ret_now hE ?_; conv => whnf) | (intro hlen; conv => whnf) | (refine seg_here ?_; conv => whnf) | (refine both ?_ ?_ <;> conv => whnf))
    exact ⟨rfl, rfl⟩
theorem fn1G_nl {P : Program} {G : World → Prop} {f : FuncId} {args : List V} {R : V → Prop} (h : Fn1G P G f args fun r => R r.nl) : Fn1G P G f args R :=
  fun w I vs h0 h1 h2 h3 => (h w I vs h0 h1 h2 h3).mono fun _ _ ⟨v, r, I', a, b, c, d⟩ => ⟨v, r.nl, I', a, b, c.nl, d⟩
theorem nl_decls : ∀ l : List Dc, nlL (l.map declA) = l.map declA
  | [] => by simp [nlL]
  | a :: l => by simp [nlL, V.nl, declA, nl_decls l]
theorem nl_pd (l : List Dc) (e : Int) : (V.tup [.lst (l.map declA), .int .i64 e]).nl = .tup [.lst (l.map declA), .int .i64 e] := by simp only [V.nl, nlL, nl_decls]
/-- What both parse: the declarations, or that the text is too long. -/
def stP (s : List UInt8) : List Dc × Int := if 600 < s.length then ([], 1) else (parseS s, 0)
theorem doc_eq (s : List UInt8) : ((pcsD ((bareD (s.length + 1) s).length + 1) 0 [] (bareD (s.length + 1) s)).filterMap declOf) = parseS s := by
  rw [← bare_eq _ _ (Nat.lt_succ_self _), ← pcs_eq _ _ _ _ (Nat.lt_succ_self _)]
  rfl
theorem parse_walk (s : List UInt8) : Fn1G Tryd.prog GM 8 [.str s] (fun r => r = .tup [.lst ((stP s).1.map declA), .int .i64 (stP s).2]) := by
  refine fn1G_nl ?_
  by_cases h : 600 < s.length
  · have e : stP s = ([], 1) := if_pos h
    rw [e]
    refine fn1GE (T := Tryd.tt) Tryd.func8 rfl tt_all follows_all ?_ ?_ fun C hC hW hG hE => ?_
    · kernel_rfl
    · exact Nat.le_of_ble_eq_true (by kernel_rfl)
    conv => whnf
    repeat' (first | (refine brd_t (by first | assumption | omega) ?_; conv => whnf) | (refine brd_f (by first | assumption | omega) ?_; conv => whnf) | (refine ask (by first | assumption | omega) ?_; conv => whnf) | (refine fit64 (by omega) ?_; conv => whnf) | (refine fit (by simp only [kmin, kmax]; omega) ?_; conv => whnf) | (refine br_t (by assumption) ?_; conv => whnf) | (refine br_f (by assumption) ?_; conv => whnf) | (refine get_of (by assumption) ?_; conv => whnf) | (refine get_map (by assumption) ?_; conv => whnf) | (refine draw_lex hE ?_ ?_; decide +kernel; conv => whnf) | (refine brd (fun h => ?_) (fun h => ?_) <;> conv => whnf) | (refine br (fun h => ?_) (fun h => ?_) <;> conv => whnf) | (refine ret_now hE ?_; conv => whnf) | (intro hlen; conv => whnf) | (refine seg_here ?_; conv => whnf) | (refine both ?_ ?_ <;> conv => whnf))
    all_goals exact ⟨rfl, nl_pd [] 1⟩
  · have e : stP s = (parseS s, 0) := if_neg h
    rw [e]
    refine fn1GE (T := Tryd.tt) Tryd.func8 rfl tt_all follows_all ?_ ?_ fun C hC hW hG hE => ?_
    · kernel_rfl
    · exact Nat.le_of_ble_eq_true (by kernel_rfl)
    conv => whnf
    have hp := (style_parse s (by omega)).c hC hW kept_gm hG
    repeat' (first | (refine brd_t (by first | assumption | omega) ?_; conv => whnf) | (refine brd_f (by first | assumption | omega) ?_; conv => whnf) | (refine ask (by first | assumption | omega) ?_; conv => whnf) | (refine fit64 (by omega) ?_; conv => whnf) | (refine fit (by simp only [kmin, kmax]; omega) ?_; conv => whnf) | (refine br_t (by assumption) ?_; conv => whnf) | (refine br_f (by assumption) ?_; conv => whnf) | (refine get_of (by assumption) ?_; conv => whnf) | (refine get_map (by assumption) ?_; conv => whnf) | (refine callc_eq (hp) hC hasBody_19 rfl ?_ ?_ ?_; kernel_rfl; kernel_rfl; conv => whnf) | (refine callcq_eq (hp) hC hasBody_19 rfl ?_ ?_ ?_; kernel_rfl; kernel_rfl; conv => whnf) | (refine draw_lex hE ?_ ?_; decide +kernel; conv => whnf) | (refine brd (fun h => ?_) (fun h => ?_) <;> conv => whnf) | (refine br (fun h => ?_) (fun h => ?_) <;> conv => whnf) | (refine ret_now hE ?_; conv => whnf) | (intro hlen; conv => whnf) | (refine seg_here ?_; conv => whnf) | (refine both ?_ ?_ <;> conv => whnf))
    all_goals exact ⟨rfl, nl_pd _ 0⟩
theorem parse_ref (s : List UInt8) : Fn1 Tryd.prog 9 [.str s] (fun r => r = .tup [.lst ((stP s).1.map declA), .int .i64 (stP s).2]) := by
  refine fn1_nl ?_
  by_cases h : 600 < s.length
  · have e : stP s = ([], 1) := if_pos h
    rw [e]
    refine fn1E (T := Tryd.tt) Tryd.func9 rfl tt_all follows_all ?_ ?_ fun C hC hE => ?_
    · kernel_rfl
    · exact Nat.le_of_ble_eq_true (by kernel_rfl)
    conv => whnf
    repeat' (first | (refine brd_t (by first | assumption | omega) ?_; conv => whnf) | (refine brd_f (by first | assumption | omega) ?_; conv => whnf) | (refine ask (by first | assumption | omega) ?_; conv => whnf) | (refine fit64 (by omega) ?_; conv => whnf) | (refine fit (by simp only [kmin, kmax]; omega) ?_; conv => whnf) | (refine br_t (by assumption) ?_; conv => whnf) | (refine br_f (by assumption) ?_; conv => whnf) | (refine get_of (by assumption) ?_; conv => whnf) | (refine get_map (by assumption) ?_; conv => whnf) | (refine draw_lex hE ?_ ?_; decide +kernel; conv => whnf) | (refine brd (fun h => ?_) (fun h => ?_) <;> conv => whnf) | (refine br (fun h => ?_) (fun h => ?_) <;> conv => whnf) | (refine ret_now hE ?_; conv => whnf) | (intro hlen; conv => whnf) | (refine seg_here ?_; conv => whnf) | (refine both ?_ ?_ <;> conv => whnf))
    all_goals exact ⟨rfl, nl_pd [] 1⟩
  · have e : stP s = (parseS s, 0) := if_neg h
    rw [e]
    have hp := ref_style s (by omega) (by rw [← bare_eq _ _ (Nat.lt_succ_self _)]; exact bareP_len _ _)
    rw [doc_eq] at hp
    refine fn1E (T := Tryd.tt) Tryd.func9 rfl tt_all follows_all ?_ ?_ fun C hC hE => ?_
    · kernel_rfl
    · exact Nat.le_of_ble_eq_true (by kernel_rfl)
    conv => whnf
    repeat' (first | (refine brd_t (by first | assumption | omega) ?_; conv => whnf) | (refine brd_f (by first | assumption | omega) ?_; conv => whnf) | (refine ask (by first | assumption | omega) ?_; conv => whnf) | (refine fit64 (by omega) ?_; conv => whnf) | (refine fit (by simp only [kmin, kmax]; omega) ?_; conv => whnf) | (refine br_t (by assumption) ?_; conv => whnf) | (refine br_f (by assumption) ?_; conv => whnf) | (refine get_of (by assumption) ?_; conv => whnf) | (refine get_map (by assumption) ?_; conv => whnf) | (refine call_eq (hp) hC hasBody_20 ?_ ?_ ?_; kernel_rfl; kernel_rfl; conv => whnf) | (refine callq_eq (hp) hC hasBody_20 ?_ ?_ ?_; kernel_rfl; kernel_rfl; conv => whnf) | (refine draw_lex hE ?_ ?_; decide +kernel; conv => whnf) | (refine brd (fun h => ?_) (fun h => ?_) <;> conv => whnf) | (refine br (fun h => ?_) (fun h => ?_) <;> conv => whnf) | (refine ret_now hE ?_; conv => whnf) | (intro hlen; conv => whnf) | (refine seg_here ?_; conv => whnf) | (refine both ?_ ?_ <;> conv => whnf))
    all_goals exact ⟨rfl, nl_pd _ 0⟩
end Go.Proofs.YtaeeceabnkgnnaaDoor
