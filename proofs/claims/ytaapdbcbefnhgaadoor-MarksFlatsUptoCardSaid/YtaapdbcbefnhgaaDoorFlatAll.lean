/- marks.Flat and the document's MarksFlat; the law MarksFlats. No conditions. -/
import Derived.Test.YtaapdbcbefnhgaaDoorMNormB
import Derived.Test.YtaapdbcbefnhgaaDoorFresh
import Derived.Test.YtaapdbcbefnhgaaDoorMReads
/-! Flat runs of nodes: plain laws. No conditions. -/
set_option linter.unusedSimpArgs false
set_option linter.unusedVariables false
set_option maxRecDepth 100000
namespace Go.Proofs.YtaapdbcbefnhgaaDoor
open Go.RowKit

inductive Fl where
  | bad (c : Int)
  | ok (r : List Rn)
def Fl.join (out : List Rn) : Fl → Fl
  | .bad c => .bad c
  | .ok r => .ok (out ++ r)
def Fl.then (a b : Fl) : Fl := match a with
  | .bad c => .bad c
  | .ok r => b.join r
mutual
def flS (L w : List (List UInt8)) : Nd → Fl
  | .mk n a t ps => if n = [] then (if a = [] ∧ ps = [] then .ok [⟨t, w⟩] else .bad 4) else if a = [] ∧ t = [] then (if n ∈ L then flL L (w ++ [n]) ps else .bad 5) else .bad 4
def flL (L w : List (List UInt8)) : List Nd → Fl
  | [] => .ok []
  | x :: xs => (flS L w x).then (flL L w xs)
end
theorem flS_bad {L w : List (List UInt8)} {n : List UInt8} {a : List Atr} {t : List UInt8} {ps : List Nd} (hn : n = []) (h : ¬ (a = [] ∧ ps = [])) : flS L w (.mk n a t ps) = .bad 4 := by rw [flS, if_pos hn, if_neg h]
theorem flS_txt {L w : List (List UInt8)} {n : List UInt8} {a : List Atr} {t : List UInt8} {ps : List Nd} (hn : n = []) (h : a = [] ∧ ps = []) : flS L w (.mk n a t ps) = .ok [⟨t, w⟩] := by rw [flS, if_pos hn, if_pos h]
theorem flS_bad2 {L w : List (List UInt8)} {n : List UInt8} {a : List Atr} {t : List UInt8} {ps : List Nd} (hn : ¬ n = []) (h : ¬ (a = [] ∧ t = [])) : flS L w (.mk n a t ps) = .bad 4 := by rw [flS, if_neg hn, if_neg h]
theorem flS_no {L w : List (List UInt8)} {n : List UInt8} {a : List Atr} {t : List UInt8} {ps : List Nd} (hn : ¬ n = []) (h : a = [] ∧ t = []) (hm : ¬ n ∈ L) : flS L w (.mk n a t ps) = .bad 5 := by rw [flS, if_neg hn, if_pos h, if_neg hm]
theorem flS_in {L w : List (List UInt8)} {n : List UInt8} {a : List Atr} {t : List UInt8} {ps : List Nd} (hn : ¬ n = []) (h : a = [] ∧ t = []) (hm : n ∈ L) : flS L w (.mk n a t ps) = flL L (w ++ [n]) ps := by rw [flS, if_neg hn, if_pos h, if_pos hm]
theorem flL_step {L w : List (List UInt8)} {l : List Nd} {k : Nat} {x : Nd} (hx : l[k]? = some x) : flL L w (l.drop k) = (flS L w x).then (flL L w (l.drop (k + 1))) := by
  obtain ⟨hlt, rfl⟩ := List.getElem?_eq_some_iff.1 hx
  rw [List.drop_eq_getElem_cons hlt, flL]
theorem then_bad {a b : Fl} {c : Int} (h : a.then b = .bad c) : a = .bad c ∨ b = .bad c := by
  cases a with
  | bad c' => exact .inl h
  | ok r =>
    cases b with
    | bad c' => exact .inr h
    | ok r' => cases h
mutual
theorem flS_err (L : List (List UInt8)) : ∀ (x : Nd) (w : List (List UInt8)) (c : Int), flS L w x = .bad c → c = 4 ∨ c = 5
  | .mk n a t ps, w, c, h => by
    rw [flS] at h
    split at h
    · split at h
      · cases h
      · cases h; exact .inl rfl
    · split at h
      · split at h
        · exact flL_err L ps _ c h
        · cases h; exact .inr rfl
      · cases h; exact .inl rfl
theorem flL_err (L : List (List UInt8)) : ∀ (l : List Nd) (w : List (List UInt8)) (c : Int), flL L w l = .bad c → c = 4 ∨ c = 5
  | [], w, c, h => by rw [flL] at h; cases h
  | x :: xs, w, c, h => by
    rw [flL] at h
    rcases then_bad h with h | h
    · exact flS_err L x w c h
    · exact flL_err L xs w c h
end
theorem then_ok {a b : Fl} {r : List Rn} (h : a.then b = .ok r) : ∃ r1 r2, a = .ok r1 ∧ b = .ok r2 ∧ r = r1 ++ r2 := by
  cases a with
  | bad c' => cases h
  | ok r1 =>
    cases b with
    | bad c' => cases h
    | ok r2 => cases h; exact ⟨r1, r2, rfl, rfl, rfl⟩
mutual
theorem flS_sz (L : List (List UInt8)) : ∀ (x : Nd) (w : List (List UInt8)) (r : List Rn), flS L w x = .ok r → r.length ≤ szN x ∧ sumT r ≤ szN x
  | .mk n a t ps, w, r, h => by
    have e : szN (.mk n a t ps) = (n.length + 1) + ((a.map szA).sum + 1) + (t.length + 1) + (szL ps + 1) + 1 := by simp only [szN, szS]
    rw [flS] at h
    rw [e]
    split at h
    · split at h
      · cases h; simp [sumT]; omega
      · cases h
    · split at h
      · split at h
        · have := flL_sz L ps _ r h; omega
        · cases h
      · cases h
theorem flL_sz (L : List (List UInt8)) : ∀ (l : List Nd) (w : List (List UInt8)) (r : List Rn), flL L w l = .ok r → r.length ≤ szL l ∧ sumT r ≤ szL l
  | [], w, r, h => by rw [flL] at h; cases h; simp [sumT]
  | x :: xs, w, r, h => by
    rw [flL] at h
    obtain ⟨r1, r2, h1, h2, rfl⟩ := then_ok h
    have a1 := flS_sz L x w r1 h1
    have a2 := flL_sz L xs w r2 h2
    have e : szL (x :: xs) = szN x + szL xs := by simp [szL_sum]
    rw [e, List.length_append, sumT_app]
    omega
end
theorem join_join (a b : List Rn) (f : Fl) : (f.join b).join a = f.join (a ++ b) := by
  cases f with
  | bad c => rfl
  | ok r => simp [Fl.join]
theorem join_nil (f : Fl) : f.join [] = f := by cases f <;> rfl
theorem then_ok_join (r : List Rn) (b : Fl) : (Fl.ok r).then b = b.join r := rfl
def flV : Fl → V
  | .bad c => .tup [.lst [], .int .i64 c]
  | .ok r => .tup [.lst (r.map rnA), .int .i64 0]
theorem sz_take {l : List Nd} {k : Nat} {x : Nd} (hx : l[k]? = some x) : szL (l.take (k + 1)) = szL (l.take k) + szN x := by
  rw [szL_sum, szL_sum, List.take_add_one, hx, List.map_append, List.sum_append]
  simp
theorem sz_take_le (l : List Nd) (k : Nat) : szL (l.take k) ≤ szL l := by
  rw [szL_sum, szL_sum]
  induction l generalizing k with
  | nil => simp
  | cons x l ih =>
    cases k with
    | zero => simp
    | succ k => simp only [List.take_succ_cons, List.map_cons, List.sum_cons]; have := ih k; omega
theorem rn_kill (id : Nat) (l : List Rn) : killL id (l.map rnA) = l.map rnA := kill_nrL _ (nr_rn l)
theorem rn_frz (id : Nat) (els : List V) (l : List Rn) : frzL id els (l.map rnA) = l.map rnA := frz_nrL _ _ (nr_rn l)
theorem str_kill (id : Nat) (l : List (List UInt8)) : killL id (l.map V.str) = l.map V.str := kill_nrL _ (nr_strs l)
theorem str_frz (id : Nat) (els : List V) (l : List (List UInt8)) : frzL id els (l.map V.str) = l.map V.str := frz_nrL _ _ (nr_strs l)
end Go.Proofs.YtaapdbcbefnhgaaDoor

/-! marks.flat, walked. No conditions. -/
namespace Go.Proofs.YtaapdbcbefnhgaaDoor
open Go.RowKit

theorem h_clone_str (l : List (List UInt8)) (hl : l.length ≤ 1048576) : HFn Tryd.prog 57 [.lst (l.map V.str)] [.row 1 []] [] (fun r o => r = .sl 0 0 l.length ∧ o = [.row 1 (l.map V.str)]) := by
  have hlm : (l.map V.str).length = l.length := by simp
  have hcl : ∀ y ∈ l.map V.str, y.cells.length = 1 := fun y hy => by obtain ⟨q, _, rfl⟩ := List.mem_map.1 hy; rfl
  have hkl : killL 2 (List.take 0 (List.drop 0 []) ++ l.map V.str) = l.map V.str := by rw [List.drop_nil, List.take_nil, List.nil_append, kill_nrL _ (nr_strs l)]
  refine hfnE (T := Tryd.tt) Tryd.func57 rfl tt_all follows_all ?_ ?_ fun C vs hC hE => ?_
  · kernel_rfl
  · exact Nat.le_of_ble_eq_true (by kernel_rfl)
  conv => whnf
  repeat' (first | (refine brd_t (by first | assumption | omega) ?_; conv => whnf) | (refine brd_f (by first | assumption | omega) ?_; conv => whnf) | (refine ask (by first | assumption | omega) ?_; conv => whnf) | (refine fit64 (by omega) ?_; conv => whnf) | (refine fit (by simp only [kmin, kmax]; omega) ?_; conv => whnf) | (refine br_t (by assumption) ?_; conv => whnf) | (refine br_f (by assumption) ?_; conv => whnf) | (refine get_of (by assumption) ?_; conv => whnf) | (refine get_map (by assumption) ?_; conv => whnf) | (refine ⟨hcl, ?_⟩; conv => whnf) | (refine draw_lex hE ?_ ?_; decide +kernel; conv => whnf) | (refine brd (fun h => ?_) (fun h => ?_) <;> conv => whnf) | (refine br (fun h => ?_) (fun h => ?_) <;> conv => whnf) | (refine ret_now hE ?_; conv => whnf) | (intro hlen; conv => whnf) | (refine seg_here ?_; conv => whnf) | (refine both ?_ ?_ <;> conv => whnf))
  · have h0 : l = [] := by have := hlen (by assumption); simpa using this
    subst h0
    refine hret_up (up_own 2 1 rfl rfl (up_drop 0 (up_move 2 0 (by decide) rfl rfl (up_here (hret_now hE ?_)))))
    conv => whnf
    exact ⟨rfl, rfl, rfl, rfl⟩
  · refine hret_up (up_drop 0 (up_move 2 0 (by decide) rfl rfl (up_here (hret_now hE ?_))))
    conv => whnf
    refine ⟨rfl, rfl, ?_, ?_⟩
    · show V.sl 0 0 (0 + (l.map V.str).length) = V.sl 0 0 l.length
      rw [hlm, Nat.zero_add]
    · rw [hkl]
      show [Ob.row 1 (mvL 2 0 (killL 0 (l.map V.str)))] = _
      rw [kill_nrL _ (nr_strs l), mv_nrL _ _ (nr_strs l)]

theorem flV_nl (f : Fl) : (flV f).nl = flV f := by cases f <;> simp [flV, V.nl, nlL, nl_rnL]
set_option maxHeartbeats 16000000 in
theorem marks_flat (L : List (List UInt8)) : ∀ (N : Nat) (l : List Nd) (w : List (List UInt8)), szL l ≤ N → N ≤ 1048576 → w.length + szL l ≤ 1048576 →
    Fn1 Tryd.prog 43 [.lst (L.map V.str), .lst (nodesL l), .lst (w.map V.str)] (fun r => r = flV (flL L w l)) := by
  intro N
  induction N using Nat.strongRecOn with
  | _ N ih =>
    intro l w hps hN hw
    have hlm := nodesL_length l
    have hll := szL_len l
    have hwm : (w.map V.str).length = w.length := by simp
    refine fn1_nl ?_
    refine fn1E (T := Tryd.tt) Tryd.func43 rfl tt_all follows_all ?_ ?_ fun C hC hE => ?_
    · kernel_rfl
    · exact Nat.le_of_ble_eq_true (by kernel_rfl)
    conv => whnf
    repeat' (first | (refine brd_t (by first | assumption | omega) ?_; conv => whnf) | (refine brd_f (by first | assumption | omega) ?_; conv => whnf) | (refine ask (by first | assumption | omega) ?_; conv => whnf) | (refine fit64 (by omega) ?_; conv => whnf) | (refine fit (by simp only [kmin, kmax]; omega) ?_; conv => whnf) | (refine br_t (by assumption) ?_; conv => whnf) | (refine br_f (by assumption) ?_; conv => whnf) | (refine get_of (by assumption) ?_; conv => whnf) | (refine get_map (by assumption) ?_; conv => whnf) | (refine draw_lex hE ?_ ?_; decide +kernel; conv => whnf) | (refine draw_any hE [⟨2, [(0, none), (1, none), (2, none), (3, none), (5, none), (6, none), (4, some 0), (7, some 1)], some 8, [0, 1, 2], [[], [0], [2], [0, 2], [1, 2], [0, 1, 2]]⟩, ⟨0, [(9, none), (10, none), (11, none), (12, none), (13, none), (14, none)], none, [], [[]]⟩] ?_ ?_; decide +kernel; conv => whnf) | (refine brd (fun h => ?_) (fun h => ?_) <;> conv => whnf) | (refine br (fun h => ?_) (fun h => ?_) <;> conv => whnf) | (refine ret_now hE ?_; conv => whnf) | (intro hlen; conv => whnf) | (refine seg_here ?_; conv => whnf) | (refine both ?_ ?_ <;> conv => whnf))
    refine loopE (fun ((k, out) : Nat × List Rn) => ⟨74, [(0, .lst (L.map V.str)), (2, .lst (w.map V.str)), (8, .sl 0 0 out.length), (13, .lst (nodesL l)), (14, .int .i64 (nodesL l).length), (15, .int .i64 k)], [some (.row 2 (out.map rnA))]⟩)
      (fun (k, out) => k ≤ l.length ∧ out.length ≤ szL (l.take k) ∧ (flL L w (l.drop k)).join out = flL L w l) (fun (k, _) => l.length - k) (0, []) hE ?_ ?_ ⟨Nat.zero_le _, Nat.zero_le _, join_nil _⟩ ?_
    · kernel_rfl
    · exact up_own 8 2 rfl rfl (at_keep [0, 2, 8, 13, 14, 15] rfl)
    rintro ⟨k, out⟩ ⟨hk, hcl, hI⟩
    have hom : (out.map rnA).length = out.length := by simp
    have htl := sz_take_le l k
    by_cases hlt : k < l.length
    · obtain ⟨n, a, t, qs, hx, hx'⟩ := node_at hlt
      have hst := flL_step (L := L) (w := w) hx
      rw [hst] at hI
      have hp2 := szL_mem (List.mem_of_getElem? hx)
      have e1 : szN (.mk n a t qs) = (n.length + 1) + ((a.map szA).sum + 1) + (t.length + 1) + (szL qs + 1) + 1 := by simp only [szN, szS]
      have htl2 := sz_take_le l (k + 1)
      have hszk := sz_take hx
      have ham : (a.map attA).length = a.length := by simp
      have hqm := nodesL_length qs
      by_cases hn : n = []
      · by_cases hap : a = [] ∧ qs = []
        · rw [flS_txt hn hap, then_ok_join, join_join] at hI
          obtain ⟨ha, hq⟩ := hap
          have ha0 : a.length = 0 := by rw [ha]; rfl
          have hq0 : qs.length = 0 := by rw [hq]; rfl
          have hA : List.take out.length (List.drop 0 (out.map rnA)) ++ List.take 1 (List.drop 0 [V.agg [.str t, .lst (w.map V.str)]]) = (out ++ [(⟨t, w⟩ : Rn)]).map rnA := by
            rw [List.drop_zero, List.take_of_length_le (by omega), List.map_append]
            rfl
          have hAl : out.length + (List.take 1 (List.drop 0 [V.agg [.str t, .lst (w.map V.str)]])).length = (out ++ [(⟨t, w⟩ : Rn)]).length := by simp
          conv => whnf
          repeat' (first | (refine brd_t (by first | assumption | omega) ?_; conv => whnf) | (refine brd_f (by first | assumption | omega) ?_; conv => whnf) | (refine ask (by first | assumption | omega) ?_; conv => whnf) | (refine fit64 (by omega) ?_; conv => whnf) | (refine fit (by simp only [kmin, kmax]; omega) ?_; conv => whnf) | (refine br_t (by assumption) ?_; conv => whnf) | (refine br_f (by assumption) ?_; conv => whnf) | (refine get_of (by assumption) ?_; conv => whnf) | (refine get_map (by assumption) ?_; conv => whnf) | (refine ask (Nat.le_refl 1) ?_; conv => whnf) | (refine ask ⟨?_, ?_, ?_⟩ ?_; (first | omega | (simp <;> omega)); (show _ + 1 ≤ 9223372036854775807; omega); (show (_ + 1) * _ ≤ 140737488355328; omega); conv => whnf) | (refine draw_lex hE ?_ ?_; decide +kernel; conv => whnf) | (refine draw_any hE [⟨2, [(0, none), (1, none), (2, none), (3, none), (5, none), (6, none), (4, some 0), (7, some 1)], some 8, [0, 1, 2], [[], [0], [2], [0, 2], [1, 2], [0, 1, 2]]⟩, ⟨0, [(9, none), (10, none), (11, none), (12, none), (13, none), (14, none)], none, [], [[]]⟩] ?_ ?_; decide +kernel; conv => whnf) | (refine brd (fun h => ?_) (fun h => ?_) <;> conv => whnf) | (refine br (fun h => ?_) (fun h => ?_) <;> conv => whnf) | (refine ret_now hE ?_; conv => whnf) | (intro hlen; conv => whnf) | (refine seg_here ?_; conv => whnf) | (refine both ?_ ?_ <;> conv => whnf))
          refine next_drop [0, 2, 8, 13, 14, 15] [1, 2] (k + 1, out ++ [⟨t, w⟩]) ⟨hlt, ?_, hI⟩ (show l.length - (k + 1) < l.length - k by omega) ?_
          · show (out ++ [(⟨t, w⟩ : Rn)]).length ≤ szL (l.take (k + 1))
            rw [List.length_append, List.length_singleton]
            omega
          · conv => whnf
            rw [hA, rn_kill, rn_kill, rn_kill, hAl]
            rfl
        · rw [flS_bad hn hap] at hI
          have hor : 0 < a.length ∨ 0 < qs.length := by
            rcases Nat.eq_zero_or_pos a.length with h | h
            · rcases Nat.eq_zero_or_pos qs.length with h2 | h2
              · exact absurd ⟨List.length_eq_zero_iff.1 h, List.length_eq_zero_iff.1 h2⟩ hap
              · exact .inr h2
            · exact .inl h
          rw [← hI]
          conv => whnf
          repeat' (first | (refine brd_t (by first | assumption | omega) ?_; conv => whnf) | (refine brd_f (by first | assumption | omega) ?_; conv => whnf) | (refine ask (by first | assumption | omega) ?_; conv => whnf) | (refine fit64 (by omega) ?_; conv => whnf) | (refine fit (by simp only [kmin, kmax]; omega) ?_; conv => whnf) | (refine br_t (by assumption) ?_; conv => whnf) | (refine br_f (by assumption) ?_; conv => whnf) | (refine get_of (by assumption) ?_; conv => whnf) | (refine get_map (by assumption) ?_; conv => whnf) | (refine draw_lex hE ?_ ?_; decide +kernel; conv => whnf) | (refine draw_any hE [⟨2, [(0, none), (1, none), (2, none), (3, none), (5, none), (6, none), (4, some 0), (7, some 1)], some 8, [0, 1, 2], [[], [0], [2], [0, 2], [1, 2], [0, 1, 2]]⟩, ⟨0, [(9, none), (10, none), (11, none), (12, none), (13, none), (14, none)], none, [], [[]]⟩] ?_ ?_; decide +kernel; conv => whnf) | (refine brd (fun h => ?_) (fun h => ?_) <;> conv => whnf) | (refine br (fun h => ?_) (fun h => ?_) <;> conv => whnf) | (refine ret_now hE ?_; conv => whnf) | (intro hlen; conv => whnf) | (refine seg_here ?_; conv => whnf) | (refine both ?_ ?_ <;> conv => whnf))
          all_goals first | exact ⟨rfl, rfl⟩ | (exfalso; omega)
      · by_cases hat : a = [] ∧ t = []
        · by_cases hm : n ∈ L
          · rw [flS_in hn hat hm] at hI
            obtain ⟨ha, ht⟩ := hat
            have ha0 : a.length = 0 := by rw [ha]; rfl
            have hcs := contains_str L n
            rw [decide_eq_true hm] at hcs
            have hwn : (w ++ [n]).length = w.length + 1 := by simp
            have ih' := ih (szL qs) (by omega) qs (w ++ [n]) (Nat.le_refl _) (by omega) (by omega)
            have hcl := h_clone_str w (by omega)
            have hW1 : killL 2 (List.take w.length (List.drop 0 (w.map V.str)) ++ List.take 1 (List.drop 0 [V.str n])) = (w ++ [n]).map V.str := by
              rw [List.drop_zero, List.take_of_length_le (by omega), show w.map V.str ++ List.take 1 (List.drop 0 [V.str n]) = (w ++ [n]).map V.str by rw [List.map_append]; rfl, str_kill]
            have hW2 : w.length + (List.take 1 (List.drop 0 [V.str n])).length = ((w ++ [n]).map V.str).length := by simp
            cases hfl : flL L (w ++ [n]) qs with
            | bad c =>
              rw [hfl] at ih' hI
              have hc := flL_err L qs (w ++ [n]) c hfl
              have hc0 : ¬ c = 0 := by omega
              rw [← hI]
              conv => whnf
              repeat' (first | (refine brd_t (by first | assumption | omega) ?_; conv => whnf) | (refine brd_f (by first | assumption | omega) ?_; conv => whnf) | (refine ask (by first | assumption | omega) ?_; conv => whnf) | (refine fit64 (by omega) ?_; conv => whnf) | (refine fit (by simp only [kmin, kmax]; omega) ?_; conv => whnf) | (refine br_t (by assumption) ?_; conv => whnf) | (refine br_f (by assumption) ?_; conv => whnf) | (refine get_of (by assumption) ?_; conv => whnf) | (refine get_map (by assumption) ?_; conv => whnf) | (refine call_eq (hcs) hC hasBody_35 ?_ ?_ ?_; kernel_rfl; kernel_rfl; conv => whnf) | (refine callq_eq (hcs) hC hasBody_35 ?_ ?_ ?_; kernel_rfl; kernel_rfl; conv => whnf) | (refine callm hcl hC hasBody_57 ⟨trivial, trivial⟩ (nr_strs _) ?_; conv => whnf) | (refine ask (Nat.le_refl 1) ?_; conv => whnf) | (refine ask ⟨?_, ?_, ?_⟩ ?_; (first | omega | (simp <;> omega)); (show _ + 1 ≤ 9223372036854775807; omega); (show (_ + 1) * _ ≤ 140737488355328; omega); conv => whnf) | (refine seg_up (up_frzK 2 62 [0, 2, 8, 10, 13, 14, 15, 54, 55, 56] (z := 1) (m := w.length + (List.take 1 (List.drop 0 [V.str n])).length) (els := (w ++ [n]).map V.str) ?_ (nr_strs _) rfl hW2 rfl (up_here ?_)); exact congrArg (fun x => some (some (Ob.row 1 x))) hW1; conv => whnf) | (refine call_eq (ih') hC hasBody_43 ?_ ?_ ?_; kernel_rfl; kernel_rfl; conv => whnf) | (refine callq_eq (ih') hC hasBody_43 ?_ ?_ ?_; kernel_rfl; kernel_rfl; conv => whnf) | (refine draw_lex hE ?_ ?_; decide +kernel; conv => whnf) | (refine draw_any hE [⟨2, [(0, none), (1, none), (2, none), (3, none), (5, none), (6, none), (4, some 0), (7, some 1)], some 8, [0, 1, 2], [[], [0], [2], [0, 2], [1, 2], [0, 1, 2]]⟩, ⟨0, [(9, none), (10, none), (11, none), (12, none), (13, none), (14, none)], none, [], [[]]⟩] ?_ ?_; decide +kernel; conv => whnf) | (refine brd (fun h => ?_) (fun h => ?_) <;> conv => whnf) | (refine br (fun h => ?_) (fun h => ?_) <;> conv => whnf) | (refine ret_now hE ?_; conv => whnf) | (intro hlen; conv => whnf) | (refine seg_here ?_; conv => whnf) | (refine both ?_ ?_ <;> conv => whnf))
              all_goals exact ⟨rfl, rfl⟩
            | ok r =>
              rw [hfl] at ih' hI
              rw [then_ok_join, join_join] at hI
              have hrz := flL_sz L qs (w ++ [n]) r hfl
              have hrm : (r.map rnA).length = r.length := by simp
              conv => whnf
              repeat' (first | (refine brd_t (by first | assumption | omega) ?_; conv => whnf) | (refine brd_f (by first | assumption | omega) ?_; conv => whnf) | (refine ask (by first | assumption | omega) ?_; conv => whnf) | (refine fit64 (by omega) ?_; conv => whnf) | (refine fit (by simp only [kmin, kmax]; omega) ?_; conv => whnf) | (refine br_t (by assumption) ?_; conv => whnf) | (refine br_f (by assumption) ?_; conv => whnf) | (refine get_of (by assumption) ?_; conv => whnf) | (refine get_map (by assumption) ?_; conv => whnf) | (refine call_eq (hcs) hC hasBody_35 ?_ ?_ ?_; kernel_rfl; kernel_rfl; conv => whnf) | (refine callq_eq (hcs) hC hasBody_35 ?_ ?_ ?_; kernel_rfl; kernel_rfl; conv => whnf) | (refine callm hcl hC hasBody_57 ⟨trivial, trivial⟩ (nr_strs _) ?_; conv => whnf) | (refine ask (Nat.le_refl 1) ?_; conv => whnf) | (refine ask ⟨?_, ?_, ?_⟩ ?_; (first | omega | (simp <;> omega)); (show _ + 1 ≤ 9223372036854775807; omega); (show (_ + 1) * _ ≤ 140737488355328; omega); conv => whnf) | (refine seg_up (up_frzK 2 62 [0, 2, 8, 10, 13, 14, 15, 54, 55, 56] (z := 1) (m := w.length + (List.take 1 (List.drop 0 [V.str n])).length) (els := (w ++ [n]).map V.str) ?_ (nr_strs _) rfl hW2 rfl (up_here ?_)); exact congrArg (fun x => some (some (Ob.row 1 x))) hW1; conv => whnf) | (refine call_eq (ih') hC hasBody_43 ?_ ?_ ?_; kernel_rfl; kernel_rfl; conv => whnf) | (refine callq_eq (ih') hC hasBody_43 ?_ ?_ ?_; kernel_rfl; kernel_rfl; conv => whnf) | (refine ⟨cells_rn r, ?_⟩; conv => whnf) | (refine ask ⟨?_, ?_, ?_⟩ ?_; (first | omega | (rw [rn_kill, rn_frz]; omega) | (simp <;> omega)); omega; omega; conv => whnf) | (refine draw_lex hE ?_ ?_; decide +kernel; conv => whnf) | (refine draw_any hE [⟨2, [(0, none), (1, none), (2, none), (3, none), (5, none), (6, none), (4, some 0), (7, some 1)], some 8, [0, 1, 2], [[], [0], [2], [0, 2], [1, 2], [0, 1, 2]]⟩, ⟨0, [(9, none), (10, none), (11, none), (12, none), (13, none), (14, none)], none, [], [[]]⟩] ?_ ?_; decide +kernel; conv => whnf) | (refine brd (fun h => ?_) (fun h => ?_) <;> conv => whnf) | (refine br (fun h => ?_) (fun h => ?_) <;> conv => whnf) | (refine ret_now hE ?_; conv => whnf) | (intro hlen; conv => whnf) | (refine seg_here ?_; conv => whnf) | (refine both ?_ ?_ <;> conv => whnf))
              all_goals
                refine next_drop [0, 2, 8, 13, 14, 15] [1, 3] (k + 1, out ++ r) ⟨hlt, ?_, hI⟩ (show l.length - (k + 1) < l.length - k by omega) ?_
                · show (out ++ r).length ≤ szL (l.take (k + 1))
                  rw [List.length_append]
                  omega
                · have hA3 : List.take out.length (List.drop 0 (out.map rnA)) ++ r.map rnA = (out ++ r).map rnA := by
                    rw [List.drop_zero, List.take_of_length_le (by omega), List.map_append]
                  have hA4 : out.length + (r.map rnA).length = (out ++ r).length := by simp
                  conv => whnf
                  rw [rn_kill, rn_frz, hA3, rn_kill, rn_kill, rn_kill, hA4]
                  rfl
          · rw [flS_no hn hat hm] at hI
            obtain ⟨ha, ht⟩ := hat
            have ha0 : a.length = 0 := by rw [ha]; rfl
            have hcs := contains_str L n
            rw [decide_eq_false hm] at hcs
            rw [← hI]
            conv => whnf
            repeat' (first | (refine brd_t (by first | assumption | omega) ?_; conv => whnf) | (refine brd_f (by first | assumption | omega) ?_; conv => whnf) | (refine ask (by first | assumption | omega) ?_; conv => whnf) | (refine fit64 (by omega) ?_; conv => whnf) | (refine fit (by simp only [kmin, kmax]; omega) ?_; conv => whnf) | (refine br_t (by assumption) ?_; conv => whnf) | (refine br_f (by assumption) ?_; conv => whnf) | (refine get_of (by assumption) ?_; conv => whnf) | (refine get_map (by assumption) ?_; conv => whnf) | (refine call_eq (hcs) hC hasBody_35 ?_ ?_ ?_; kernel_rfl; kernel_rfl; conv => whnf) | (refine callq_eq (hcs) hC hasBody_35 ?_ ?_ ?_; kernel_rfl; kernel_rfl; conv => whnf) | (refine draw_lex hE ?_ ?_; decide +kernel; conv => whnf) | (refine draw_any hE [⟨2, [(0, none), (1, none), (2, none), (3, none), (5, none), (6, none), (4, some 0), (7, some 1)], some 8, [0, 1, 2], [[], [0], [2], [0, 2], [1, 2], [0, 1, 2]]⟩, ⟨0, [(9, none), (10, none), (11, none), (12, none), (13, none), (14, none)], none, [], [[]]⟩] ?_ ?_; decide +kernel; conv => whnf) | (refine brd (fun h => ?_) (fun h => ?_) <;> conv => whnf) | (refine br (fun h => ?_) (fun h => ?_) <;> conv => whnf) | (refine ret_now hE ?_; conv => whnf) | (intro hlen; conv => whnf) | (refine seg_here ?_; conv => whnf) | (refine both ?_ ?_ <;> conv => whnf))
            all_goals exact ⟨rfl, rfl⟩
        · rw [flS_bad2 hn hat] at hI
          rw [← hI]
          by_cases ha : a = []
          · have ha0 : a.length = 0 := by rw [ha]; rfl
            have ht : ¬ t = [] := fun e => hat ⟨ha, e⟩
            conv => whnf
            repeat' (first | (refine brd_t (by first | assumption | omega) ?_; conv => whnf) | (refine brd_f (by first | assumption | omega) ?_; conv => whnf) | (refine ask (by first | assumption | omega) ?_; conv => whnf) | (refine fit64 (by omega) ?_; conv => whnf) | (refine fit (by simp only [kmin, kmax]; omega) ?_; conv => whnf) | (refine br_t (by assumption) ?_; conv => whnf) | (refine br_f (by assumption) ?_; conv => whnf) | (refine get_of (by assumption) ?_; conv => whnf) | (refine get_map (by assumption) ?_; conv => whnf) | (refine draw_lex hE ?_ ?_; decide +kernel; conv => whnf) | (refine draw_any hE [⟨2, [(0, none), (1, none), (2, none), (3, none), (5, none), (6, none), (4, some 0), (7, some 1)], some 8, [0, 1, 2], [[], [0], [2], [0, 2], [1, 2], [0, 1, 2]]⟩, ⟨0, [(9, none), (10, none), (11, none), (12, none), (13, none), (14, none)], none, [], [[]]⟩] ?_ ?_; decide +kernel; conv => whnf) | (refine brd (fun h => ?_) (fun h => ?_) <;> conv => whnf) | (refine br (fun h => ?_) (fun h => ?_) <;> conv => whnf) | (refine ret_now hE ?_; conv => whnf) | (intro hlen; conv => whnf) | (refine seg_here ?_; conv => whnf) | (refine both ?_ ?_ <;> conv => whnf))
            all_goals exact ⟨rfl, rfl⟩
          · have ha0 : 0 < a.length := List.length_pos_iff.2 ha
            conv => whnf
            repeat' (first | (refine brd_t (by first | assumption | omega) ?_; conv => whnf) | (refine brd_f (by first | assumption | omega) ?_; conv => whnf) | (refine ask (by first | assumption | omega) ?_; conv => whnf) | (refine fit64 (by omega) ?_; conv => whnf) | (refine fit (by simp only [kmin, kmax]; omega) ?_; conv => whnf) | (refine br_t (by assumption) ?_; conv => whnf) | (refine br_f (by assumption) ?_; conv => whnf) | (refine get_of (by assumption) ?_; conv => whnf) | (refine get_map (by assumption) ?_; conv => whnf) | (refine draw_lex hE ?_ ?_; decide +kernel; conv => whnf) | (refine draw_any hE [⟨2, [(0, none), (1, none), (2, none), (3, none), (5, none), (6, none), (4, some 0), (7, some 1)], some 8, [0, 1, 2], [[], [0], [2], [0, 2], [1, 2], [0, 1, 2]]⟩, ⟨0, [(9, none), (10, none), (11, none), (12, none), (13, none), (14, none)], none, [], [[]]⟩] ?_ ?_; decide +kernel; conv => whnf) | (refine brd (fun h => ?_) (fun h => ?_) <;> conv => whnf) | (refine br (fun h => ?_) (fun h => ?_) <;> conv => whnf) | (refine ret_now hE ?_; conv => whnf) | (intro hlen; conv => whnf) | (refine seg_here ?_; conv => whnf) | (refine both ?_ ?_ <;> conv => whnf))
            all_goals exact ⟨rfl, rfl⟩
    · rw [List.drop_eq_nil_of_le (by omega), flL] at hI
      have hI2 : flL L w l = .ok out := by rw [← hI]; simp [Fl.join]
      conv => whnf
      repeat' (first | (refine brd_t (by first | assumption | omega) ?_; conv => whnf) | (refine brd_f (by first | assumption | omega) ?_; conv => whnf) | (refine ask (by first | assumption | omega) ?_; conv => whnf) | (refine fit64 (by omega) ?_; conv => whnf) | (refine fit (by simp only [kmin, kmax]; omega) ?_; conv => whnf) | (refine br_t (by assumption) ?_; conv => whnf) | (refine br_f (by assumption) ?_; conv => whnf) | (refine get_of (by assumption) ?_; conv => whnf) | (refine get_map (by assumption) ?_; conv => whnf) | (refine ret_up (up_frzK 0 6 [7] rfl (nr_rn _) rfl (by omega) rfl (up_here ?_))) | (refine draw_lex hE ?_ ?_; decide +kernel; conv => whnf) | (refine draw_any hE [⟨2, [(0, none), (1, none), (2, none), (3, none), (5, none), (6, none), (4, some 0), (7, some 1)], some 8, [0, 1, 2], [[], [0], [2], [0, 2], [1, 2], [0, 1, 2]]⟩, ⟨0, [(9, none), (10, none), (11, none), (12, none), (13, none), (14, none)], none, [], [[]]⟩] ?_ ?_; decide +kernel; conv => whnf) | (refine brd (fun h => ?_) (fun h => ?_) <;> conv => whnf) | (refine br (fun h => ?_) (fun h => ?_) <;> conv => whnf) | (refine ret_now hE ?_; conv => whnf) | (intro hlen; conv => whnf) | (refine seg_here ?_; conv => whnf) | (refine both ?_ ?_ <;> conv => whnf))
      refine ⟨rfl, ?_⟩
      rw [hI2]
      exact flV_nl (.ok out)
end Go.Proofs.YtaapdbcbefnhgaaDoor

/-! The document's flatRuns, walked. No conditions. -/
namespace Go.Proofs.YtaapdbcbefnhgaaDoor
open Go.RowKit

set_option maxHeartbeats 16000000 in
theorem ref_flat (L : List (List UInt8)) : ∀ (N : Nat) (l : List Nd) (w : List (List UInt8)), szL l ≤ N → N ≤ 1048576 → w.length + szL l ≤ 1048576 →
    Fn1 Tryd.prog 44 [.lst (L.map V.str), .lst (nodesL l), .lst (w.map V.str)] (fun r => r = flV (flL L w l)) := by
  intro N
  induction N using Nat.strongRecOn with
  | _ N ih =>
    intro l w hps hN hw
    have hlm := nodesL_length l
    have hll := szL_len l
    have hwm : (w.map V.str).length = w.length := by simp
    refine fn1_nl ?_
    refine fn1E (T := Tryd.tt) Tryd.func44 rfl tt_all follows_all ?_ ?_ fun C hC hE => ?_
    · kernel_rfl
    · exact Nat.le_of_ble_eq_true (by kernel_rfl)
    conv => whnf
    repeat' (first | (refine brd_t (by first | assumption | omega) ?_; conv => whnf) | (refine brd_f (by first | assumption | omega) ?_; conv => whnf) | (refine ask (by first | assumption | omega) ?_; conv => whnf) | (refine fit64 (by omega) ?_; conv => whnf) | (refine fit (by simp only [kmin, kmax]; omega) ?_; conv => whnf) | (refine br_t (by assumption) ?_; conv => whnf) | (refine br_f (by assumption) ?_; conv => whnf) | (refine get_of (by assumption) ?_; conv => whnf) | (refine get_map (by assumption) ?_; conv => whnf) | (refine draw_lex hE ?_ ?_; decide +kernel; conv => whnf) | (refine draw_any hE [⟨2, [(0, none), (1, none), (2, none), (3, none), (4, some 0), (5, none), (6, some 1)], some 7, [], [[]]⟩, ⟨0, [(8, none)], none, [], [[]]⟩] ?_ ?_; decide +kernel; conv => whnf) | (refine draw_any hE [⟨2, [(0, none), (1, none), (2, none), (3, none), (5, none), (6, none), (4, some 0), (7, some 1)], some 8, [0, 1, 2], [[], [0], [2], [0, 2], [1, 2], [0, 1, 2]]⟩, ⟨0, [(9, none), (10, none), (11, none), (12, none), (13, none), (14, none)], none, [], [[]]⟩] ?_ ?_; decide +kernel; conv => whnf) | (refine brd (fun h => ?_) (fun h => ?_) <;> conv => whnf) | (refine br (fun h => ?_) (fun h => ?_) <;> conv => whnf) | (refine ret_now hE ?_; conv => whnf) | (intro hlen; conv => whnf) | (refine seg_here ?_; conv => whnf) | (refine both ?_ ?_ <;> conv => whnf))
    refine loopE (fun ((k, out) : Nat × List Rn) => ⟨81, [(0, .lst (L.map V.str)), (2, .lst (w.map V.str)), (8, .sl 0 0 out.length), (13, .lst (nodesL l)), (14, .int .i64 (nodesL l).length), (15, .int .i64 k)], [some (.row 2 (out.map rnA))]⟩)
      (fun (k, out) => k ≤ l.length ∧ out.length ≤ szL (l.take k) ∧ (flL L w (l.drop k)).join out = flL L w l) (fun (k, _) => l.length - k) (0, []) hE ?_ ?_ ⟨Nat.zero_le _, Nat.zero_le _, join_nil _⟩ ?_
    · kernel_rfl
    · exact up_own 8 2 rfl rfl (at_keep [0, 2, 8, 13, 14, 15] rfl)
    rintro ⟨k, out⟩ ⟨hk, hcl, hI⟩
    have hom : (out.map rnA).length = out.length := by simp
    have htl := sz_take_le l k
    by_cases hlt : k < l.length
    · obtain ⟨n, a, t, qs, hx, hx'⟩ := node_at hlt
      have hst := flL_step (L := L) (w := w) hx
      rw [hst] at hI
      have hp2 := szL_mem (List.mem_of_getElem? hx)
      have e1 : szN (.mk n a t qs) = (n.length + 1) + ((a.map szA).sum + 1) + (t.length + 1) + (szL qs + 1) + 1 := by simp only [szN, szS]
      have htl2 := sz_take_le l (k + 1)
      have hszk := sz_take hx
      have ham : (a.map attA).length = a.length := by simp
      have hqm := nodesL_length qs
      by_cases hn : n = []
      · by_cases hap : a = [] ∧ qs = []
        · rw [flS_txt hn hap, then_ok_join, join_join] at hI
          obtain ⟨ha, hq⟩ := hap
          have ha0 : a.length = 0 := by rw [ha]; rfl
          have hq0 : qs.length = 0 := by rw [hq]; rfl
          have hA : List.take out.length (List.drop 0 (out.map rnA)) ++ List.take 1 (List.drop 0 [V.agg [.str t, .sl 2 0 (w.map V.str).length]]) = out.map rnA ++ [V.agg [.str t, .sl 2 0 (w.map V.str).length]] := by
            rw [List.drop_zero, List.take_of_length_le (by omega)]
            rfl
          have hF : frzL 2 (w.map V.str) [V.agg [.str t, .sl 2 0 (w.map V.str).length]] = [rnA ⟨t, w⟩] := by
            simp [frzL, V.frz, rnA]
            exact List.take_of_length_le (by simp)
          have hAl : out.length + (List.take 1 (List.drop 0 [V.agg [.str t, .sl 2 0 (w.map V.str).length]])).length = (out ++ [(⟨t, w⟩ : Rn)]).length := by simp
          conv => whnf
          repeat' (first | (refine brd_t (by first | assumption | omega) ?_; conv => whnf) | (refine brd_f (by first | assumption | omega) ?_; conv => whnf) | (refine ask (by first | assumption | omega) ?_; conv => whnf) | (refine fit64 (by omega) ?_; conv => whnf) | (refine fit (by simp only [kmin, kmax]; omega) ?_; conv => whnf) | (refine br_t (by assumption) ?_; conv => whnf) | (refine br_f (by assumption) ?_; conv => whnf) | (refine get_of (by assumption) ?_; conv => whnf) | (refine get_map (by assumption) ?_; conv => whnf) | (refine ⟨cells_strs w, ?_⟩; conv => whnf) | (refine ask (Nat.le_refl 1) ?_; conv => whnf) | (refine ask ⟨?_, ?_⟩ ?_; (first | omega | (simp <;> omega)); (first | omega | (simp <;> omega)); conv => whnf) | (refine ask ⟨?_, ?_, ?_⟩ ?_; (first | omega | (simp <;> omega)); (show _ + 1 ≤ 9223372036854775807; omega); (show (_ + 1) * _ ≤ 140737488355328; omega); conv => whnf) | (refine draw_lex hE ?_ ?_; decide +kernel; conv => whnf) | (refine draw_any hE [⟨2, [(0, none), (1, none), (2, none), (3, none), (4, some 0), (5, none), (6, some 1)], some 7, [], [[]]⟩, ⟨0, [(8, none)], none, [], [[]]⟩] ?_ ?_; decide +kernel; conv => whnf) | (refine draw_any hE [⟨2, [(0, none), (1, none), (2, none), (3, none), (5, none), (6, none), (4, some 0), (7, some 1)], some 8, [0, 1, 2], [[], [0], [2], [0, 2], [1, 2], [0, 1, 2]]⟩, ⟨0, [(9, none), (10, none), (11, none), (12, none), (13, none), (14, none)], none, [], [[]]⟩] ?_ ?_; decide +kernel; conv => whnf) | (refine brd (fun h => ?_) (fun h => ?_) <;> conv => whnf) | (refine br (fun h => ?_) (fun h => ?_) <;> conv => whnf) | (refine ret_now hE ?_; conv => whnf) | (intro hlen; conv => whnf) | (refine seg_here ?_; conv => whnf) | (refine both ?_ ?_ <;> conv => whnf))
          refine up_freeze 2 (z := 1) (els := w.map V.str) ?_ (nr_strs _) (next_drop [0, 2, 8, 13, 14, 15] [1, 3] (k + 1, out ++ [⟨t, w⟩]) ⟨hlt, ?_, hI⟩ (show l.length - (k + 1) < l.length - k by omega) ?_)
          · exact congrArg (fun x => some (some (Ob.row 1 x))) (kill_nrL 0 (nr_strs w))
          · show (out ++ [(⟨t, w⟩ : Rn)]).length ≤ szL (l.take (k + 1))
            rw [List.length_append, List.length_singleton]
            omega
          · have hR : killL 3 (killL 1 (frzL 2 (w.map V.str) (killL 0 (List.take out.length (List.drop 0 (out.map rnA)) ++ List.take 1 (List.drop 0 [V.agg [.str t, .sl 2 0 (w.map V.str).length]]))))) = (out ++ [(⟨t, w⟩ : Rn)]).map rnA := by
              rw [hA, killL_append, rn_kill, show killL 0 [V.agg [.str t, .sl 2 0 (w.map V.str).length]] = [V.agg [.str t, .sl 2 0 (w.map V.str).length]] from rfl, frzL_ap, rn_frz, hF, show out.map rnA ++ [rnA ⟨t, w⟩] = (out ++ [(⟨t, w⟩ : Rn)]).map rnA by rw [List.map_append]; rfl, rn_kill, rn_kill]
            conv => whnf
            rw [hR, hAl]
            rfl
        · rw [flS_bad hn hap] at hI
          have hor : 0 < a.length ∨ 0 < qs.length := by
            rcases Nat.eq_zero_or_pos a.length with h | h
            · rcases Nat.eq_zero_or_pos qs.length with h2 | h2
              · exact absurd ⟨List.length_eq_zero_iff.1 h, List.length_eq_zero_iff.1 h2⟩ hap
              · exact .inr h2
            · exact .inl h
          rw [← hI]
          conv => whnf
          repeat' (first | (refine brd_t (by first | assumption | omega) ?_; conv => whnf) | (refine brd_f (by first | assumption | omega) ?_; conv => whnf) | (refine ask (by first | assumption | omega) ?_; conv => whnf) | (refine fit64 (by omega) ?_; conv => whnf) | (refine fit (by simp only [kmin, kmax]; omega) ?_; conv => whnf) | (refine br_t (by assumption) ?_; conv => whnf) | (refine br_f (by assumption) ?_; conv => whnf) | (refine get_of (by assumption) ?_; conv => whnf) | (refine get_map (by assumption) ?_; conv => whnf) | (refine draw_lex hE ?_ ?_; decide +kernel; conv => whnf) | (refine draw_any hE [⟨2, [(0, none), (1, none), (2, none), (3, none), (4, some 0), (5, none), (6, some 1)], some 7, [], [[]]⟩, ⟨0, [(8, none)], none, [], [[]]⟩] ?_ ?_; decide +kernel; conv => whnf) | (refine draw_any hE [⟨2, [(0, none), (1, none), (2, none), (3, none), (5, none), (6, none), (4, some 0), (7, some 1)], some 8, [0, 1, 2], [[], [0], [2], [0, 2], [1, 2], [0, 1, 2]]⟩, ⟨0, [(9, none), (10, none), (11, none), (12, none), (13, none), (14, none)], none, [], [[]]⟩] ?_ ?_; decide +kernel; conv => whnf) | (refine brd (fun h => ?_) (fun h => ?_) <;> conv => whnf) | (refine br (fun h => ?_) (fun h => ?_) <;> conv => whnf) | (refine ret_now hE ?_; conv => whnf) | (intro hlen; conv => whnf) | (refine seg_here ?_; conv => whnf) | (refine both ?_ ?_ <;> conv => whnf))
          all_goals first | exact ⟨rfl, rfl⟩ | (exfalso; omega)
      · by_cases hat : a = [] ∧ t = []
        · by_cases hm : n ∈ L
          · rw [flS_in hn hat hm] at hI
            obtain ⟨ha, ht⟩ := hat
            have ha0 : a.length = 0 := by rw [ha]; rfl
            have hcs := one_of n L
            rw [decide_eq_true hm] at hcs
            have hwn : (w ++ [n]).length = w.length + 1 := by simp
            have ih' := ih (szL qs) (by omega) qs (w ++ [n]) (Nat.le_refl _) (by omega) (by omega)
            have hW1 : killL 2 (List.take (w.map V.str).length (List.drop 0 (w.map V.str)) ++ List.take 1 (List.drop 0 [V.str n])) = (w ++ [n]).map V.str := by
              rw [List.drop_zero, List.take_of_length_le (by omega), show w.map V.str ++ List.take 1 (List.drop 0 [V.str n]) = (w ++ [n]).map V.str by rw [List.map_append]; rfl, str_kill]
            have hW2 : (w.map V.str).length + (List.take 1 (List.drop 0 [V.str n])).length = ((w ++ [n]).map V.str).length := by simp
            cases hfl : flL L (w ++ [n]) qs with
            | bad c =>
              rw [hfl] at ih' hI
              have hc := flL_err L qs (w ++ [n]) c hfl
              have hc0 : ¬ c = 0 := by omega
              rw [← hI]
              conv => whnf
              repeat' (first | (refine brd_t (by first | assumption | omega) ?_; conv => whnf) | (refine brd_f (by first | assumption | omega) ?_; conv => whnf) | (refine ask (by first | assumption | omega) ?_; conv => whnf) | (refine fit64 (by omega) ?_; conv => whnf) | (refine fit (by simp only [kmin, kmax]; omega) ?_; conv => whnf) | (refine br_t (by assumption) ?_; conv => whnf) | (refine br_f (by assumption) ?_; conv => whnf) | (refine get_of (by assumption) ?_; conv => whnf) | (refine get_map (by assumption) ?_; conv => whnf) | (refine call_eq (hcs) hC hasBody_28 ?_ ?_ ?_; kernel_rfl; kernel_rfl; conv => whnf) | (refine callq_eq (hcs) hC hasBody_28 ?_ ?_ ?_; kernel_rfl; kernel_rfl; conv => whnf) | (refine ⟨cells_strs w, ?_⟩; conv => whnf) | (refine ask (Nat.le_refl 1) ?_; conv => whnf) | (refine ask ⟨?_, ?_, ?_⟩ ?_; (first | omega | (simp <;> omega)); (show _ + 1 ≤ 9223372036854775807; omega); (show (_ + 1) * _ ≤ 140737488355328; omega); conv => whnf) | (refine seg_up (up_frzK 2 69 [0, 2, 8, 10, 13, 14, 15, 61, 62, 63] (z := 1) (m := (w.map V.str).length + (List.take 1 (List.drop 0 [V.str n])).length) (els := (w ++ [n]).map V.str) ?_ (nr_strs _) rfl hW2 rfl (up_here ?_)); exact congrArg (fun x => some (some (Ob.row 1 x))) hW1; conv => whnf) | (refine call_eq (ih') hC hasBody_44 ?_ ?_ ?_; kernel_rfl; kernel_rfl; conv => whnf) | (refine callq_eq (ih') hC hasBody_44 ?_ ?_ ?_; kernel_rfl; kernel_rfl; conv => whnf) | (refine draw_lex hE ?_ ?_; decide +kernel; conv => whnf) | (refine draw_any hE [⟨2, [(0, none), (1, none), (2, none), (3, none), (4, some 0), (5, none), (6, some 1)], some 7, [], [[]]⟩, ⟨0, [(8, none)], none, [], [[]]⟩] ?_ ?_; decide +kernel; conv => whnf) | (refine draw_any hE [⟨2, [(0, none), (1, none), (2, none), (3, none), (5, none), (6, none), (4, some 0), (7, some 1)], some 8, [0, 1, 2], [[], [0], [2], [0, 2], [1, 2], [0, 1, 2]]⟩, ⟨0, [(9, none), (10, none), (11, none), (12, none), (13, none), (14, none)], none, [], [[]]⟩] ?_ ?_; decide +kernel; conv => whnf) | (refine brd (fun h => ?_) (fun h => ?_) <;> conv => whnf) | (refine br (fun h => ?_) (fun h => ?_) <;> conv => whnf) | (refine ret_now hE ?_; conv => whnf) | (intro hlen; conv => whnf) | (refine seg_here ?_; conv => whnf) | (refine both ?_ ?_ <;> conv => whnf))
              all_goals exact ⟨rfl, rfl⟩
            | ok r =>
              rw [hfl] at ih' hI
              rw [then_ok_join, join_join] at hI
              have hrz := flL_sz L qs (w ++ [n]) r hfl
              have hrm : (r.map rnA).length = r.length := by simp
              conv => whnf
              repeat' (first | (refine brd_t (by first | assumption | omega) ?_; conv => whnf) | (refine brd_f (by first | assumption | omega) ?_; conv => whnf) | (refine ask (by first | assumption | omega) ?_; conv => whnf) | (refine fit64 (by omega) ?_; conv => whnf) | (refine fit (by simp only [kmin, kmax]; omega) ?_; conv => whnf) | (refine br_t (by assumption) ?_; conv => whnf) | (refine br_f (by assumption) ?_; conv => whnf) | (refine get_of (by assumption) ?_; conv => whnf) | (refine get_map (by assumption) ?_; conv => whnf) | (refine call_eq (hcs) hC hasBody_28 ?_ ?_ ?_; kernel_rfl; kernel_rfl; conv => whnf) | (refine callq_eq (hcs) hC hasBody_28 ?_ ?_ ?_; kernel_rfl; kernel_rfl; conv => whnf) | (refine ⟨cells_strs w, ?_⟩; conv => whnf) | (refine ask (Nat.le_refl 1) ?_; conv => whnf) | (refine ask ⟨?_, ?_, ?_⟩ ?_; (first | omega | (simp <;> omega)); (show _ + 1 ≤ 9223372036854775807; omega); (show (_ + 1) * _ ≤ 140737488355328; omega); conv => whnf) | (refine seg_up (up_frzK 2 69 [0, 2, 8, 10, 13, 14, 15, 61, 62, 63] (z := 1) (m := (w.map V.str).length + (List.take 1 (List.drop 0 [V.str n])).length) (els := (w ++ [n]).map V.str) ?_ (nr_strs _) rfl hW2 rfl (up_here ?_)); exact congrArg (fun x => some (some (Ob.row 1 x))) hW1; conv => whnf) | (refine call_eq (ih') hC hasBody_44 ?_ ?_ ?_; kernel_rfl; kernel_rfl; conv => whnf) | (refine callq_eq (ih') hC hasBody_44 ?_ ?_ ?_; kernel_rfl; kernel_rfl; conv => whnf) | (refine ⟨cells_rn r, ?_⟩; conv => whnf) | (refine ask ⟨?_, ?_, ?_⟩ ?_; (first | omega | (rw [rn_kill, rn_frz]; omega) | (simp <;> omega)); omega; omega; conv => whnf) | (refine draw_lex hE ?_ ?_; decide +kernel; conv => whnf) | (refine draw_any hE [⟨2, [(0, none), (1, none), (2, none), (3, none), (4, some 0), (5, none), (6, some 1)], some 7, [], [[]]⟩, ⟨0, [(8, none)], none, [], [[]]⟩] ?_ ?_; decide +kernel; conv => whnf) | (refine draw_any hE [⟨2, [(0, none), (1, none), (2, none), (3, none), (5, none), (6, none), (4, some 0), (7, some 1)], some 8, [0, 1, 2], [[], [0], [2], [0, 2], [1, 2], [0, 1, 2]]⟩, ⟨0, [(9, none), (10, none), (11, none), (12, none), (13, none), (14, none)], none, [], [[]]⟩] ?_ ?_; decide +kernel; conv => whnf) | (refine brd (fun h => ?_) (fun h => ?_) <;> conv => whnf) | (refine br (fun h => ?_) (fun h => ?_) <;> conv => whnf) | (refine ret_now hE ?_; conv => whnf) | (intro hlen; conv => whnf) | (refine seg_here ?_; conv => whnf) | (refine both ?_ ?_ <;> conv => whnf))
              all_goals
                refine next_drop [0, 2, 8, 13, 14, 15] [1, 3] (k + 1, out ++ r) ⟨hlt, ?_, hI⟩ (show l.length - (k + 1) < l.length - k by omega) ?_
                · show (out ++ r).length ≤ szL (l.take (k + 1))
                  rw [List.length_append]
                  omega
                · have hA3 : List.take out.length (List.drop 0 (out.map rnA)) ++ r.map rnA = (out ++ r).map rnA := by
                    rw [List.drop_zero, List.take_of_length_le (by omega), List.map_append]
                  have hA4 : out.length + (r.map rnA).length = (out ++ r).length := by simp
                  conv => whnf
                  rw [rn_kill, rn_frz, hA3, rn_kill, rn_kill, rn_kill, hA4]
                  rfl
          · rw [flS_no hn hat hm] at hI
            obtain ⟨ha, ht⟩ := hat
            have ha0 : a.length = 0 := by rw [ha]; rfl
            have hcs := one_of n L
            rw [decide_eq_false hm] at hcs
            rw [← hI]
            conv => whnf
            repeat' (first | (refine brd_t (by first | assumption | omega) ?_; conv => whnf) | (refine brd_f (by first | assumption | omega) ?_; conv => whnf) | (refine ask (by first | assumption | omega) ?_; conv => whnf) | (refine fit64 (by omega) ?_; conv => whnf) | (refine fit (by simp only [kmin, kmax]; omega) ?_; conv => whnf) | (refine br_t (by assumption) ?_; conv => whnf) | (refine br_f (by assumption) ?_; conv => whnf) | (refine get_of (by assumption) ?_; conv => whnf) | (refine get_map (by assumption) ?_; conv => whnf) | (refine call_eq (hcs) hC hasBody_28 ?_ ?_ ?_; kernel_rfl; kernel_rfl; conv => whnf) | (refine callq_eq (hcs) hC hasBody_28 ?_ ?_ ?_; kernel_rfl; kernel_rfl; conv => whnf) | (refine draw_lex hE ?_ ?_; decide +kernel; conv => whnf) | (refine draw_any hE [⟨2, [(0, none), (1, none), (2, none), (3, none), (4, some 0), (5, none), (6, some 1)], some 7, [], [[]]⟩, ⟨0, [(8, none)], none, [], [[]]⟩] ?_ ?_; decide +kernel; conv => whnf) | (refine draw_any hE [⟨2, [(0, none), (1, none), (2, none), (3, none), (5, none), (6, none), (4, some 0), (7, some 1)], some 8, [0, 1, 2], [[], [0], [2], [0, 2], [1, 2], [0, 1, 2]]⟩, ⟨0, [(9, none), (10, none), (11, none), (12, none), (13, none), (14, none)], none, [], [[]]⟩] ?_ ?_; decide +kernel; conv => whnf) | (refine brd (fun h => ?_) (fun h => ?_) <;> conv => whnf) | (refine br (fun h => ?_) (fun h => ?_) <;> conv => whnf) | (refine ret_now hE ?_; conv => whnf) | (intro hlen; conv => whnf) | (refine seg_here ?_; conv => whnf) | (refine both ?_ ?_ <;> conv => whnf))
            all_goals exact ⟨rfl, rfl⟩
        · rw [flS_bad2 hn hat] at hI
          rw [← hI]
          by_cases ha : a = []
          · have ha0 : a.length = 0 := by rw [ha]; rfl
            have ht : ¬ t = [] := fun e => hat ⟨ha, e⟩
            conv => whnf
            repeat' (first | (refine brd_t (by first | assumption | omega) ?_; conv => whnf) | (refine brd_f (by first | assumption | omega) ?_; conv => whnf) | (refine ask (by first | assumption | omega) ?_; conv => whnf) | (refine fit64 (by omega) ?_; conv => whnf) | (refine fit (by simp only [kmin, kmax]; omega) ?_; conv => whnf) | (refine br_t (by assumption) ?_; conv => whnf) | (refine br_f (by assumption) ?_; conv => whnf) | (refine get_of (by assumption) ?_; conv => whnf) | (refine get_map (by assumption) ?_; conv => whnf) | (refine draw_lex hE ?_ ?_; decide +kernel; conv => whnf) | (refine draw_any hE [⟨2, [(0, none), (1, none), (2, none), (3, none), (4, some 0), (5, none), (6, some 1)], some 7, [], [[]]⟩, ⟨0, [(8, none)], none, [], [[]]⟩] ?_ ?_; decide +kernel; conv => whnf) | (refine draw_any hE [⟨2, [(0, none), (1, none), (2, none), (3, none), (5, none), (6, none), (4, some 0), (7, some 1)], some 8, [0, 1, 2], [[], [0], [2], [0, 2], [1, 2], [0, 1, 2]]⟩, ⟨0, [(9, none), (10, none), (11, none), (12, none), (13, none), (14, none)], none, [], [[]]⟩] ?_ ?_; decide +kernel; conv => whnf) | (refine brd (fun h => ?_) (fun h => ?_) <;> conv => whnf) | (refine br (fun h => ?_) (fun h => ?_) <;> conv => whnf) | (refine ret_now hE ?_; conv => whnf) | (intro hlen; conv => whnf) | (refine seg_here ?_; conv => whnf) | (refine both ?_ ?_ <;> conv => whnf))
            all_goals exact ⟨rfl, rfl⟩
          · have ha0 : 0 < a.length := List.length_pos_iff.2 ha
            conv => whnf
            repeat' (first | (refine brd_t (by first | assumption | omega) ?_; conv => whnf) | (refine brd_f (by first | assumption | omega) ?_; conv => whnf) | (refine ask (by first | assumption | omega) ?_; conv => whnf) | (refine fit64 (by omega) ?_; conv => whnf) | (refine fit (by simp only [kmin, kmax]; omega) ?_; conv => whnf) | (refine br_t (by assumption) ?_; conv => whnf) | (refine br_f (by assumption) ?_; conv => whnf) | (refine get_of (by assumption) ?_; conv => whnf) | (refine get_map (by assumption) ?_; conv => whnf) | (refine draw_lex hE ?_ ?_; decide +kernel; conv => whnf) | (refine draw_any hE [⟨2, [(0, none), (1, none), (2, none), (3, none), (4, some 0), (5, none), (6, some 1)], some 7, [], [[]]⟩, ⟨0, [(8, none)], none, [], [[]]⟩] ?_ ?_; decide +kernel; conv => whnf) | (refine draw_any hE [⟨2, [(0, none), (1, none), (2, none), (3, none), (5, none), (6, none), (4, some 0), (7, some 1)], some 8, [0, 1, 2], [[], [0], [2], [0, 2], [1, 2], [0, 1, 2]]⟩, ⟨0, [(9, none), (10, none), (11, none), (12, none), (13, none), (14, none)], none, [], [[]]⟩] ?_ ?_; decide +kernel; conv => whnf) | (refine brd (fun h => ?_) (fun h => ?_) <;> conv => whnf) | (refine br (fun h => ?_) (fun h => ?_) <;> conv => whnf) | (refine ret_now hE ?_; conv => whnf) | (intro hlen; conv => whnf) | (refine seg_here ?_; conv => whnf) | (refine both ?_ ?_ <;> conv => whnf))
            all_goals exact ⟨rfl, rfl⟩
    · rw [List.drop_eq_nil_of_le (by omega), flL] at hI
      have hI2 : flL L w l = .ok out := by rw [← hI]; simp [Fl.join]
      conv => whnf
      repeat' (first | (refine brd_t (by first | assumption | omega) ?_; conv => whnf) | (refine brd_f (by first | assumption | omega) ?_; conv => whnf) | (refine ask (by first | assumption | omega) ?_; conv => whnf) | (refine fit64 (by omega) ?_; conv => whnf) | (refine fit (by simp only [kmin, kmax]; omega) ?_; conv => whnf) | (refine br_t (by assumption) ?_; conv => whnf) | (refine br_f (by assumption) ?_; conv => whnf) | (refine get_of (by assumption) ?_; conv => whnf) | (refine get_map (by assumption) ?_; conv => whnf) | (refine ret_up (up_frzK 0 6 [7] rfl (nr_rn _) rfl (by omega) rfl (up_here ?_))) | (refine draw_lex hE ?_ ?_; decide +kernel; conv => whnf) | (refine draw_any hE [⟨2, [(0, none), (1, none), (2, none), (3, none), (4, some 0), (5, none), (6, some 1)], some 7, [], [[]]⟩, ⟨0, [(8, none)], none, [], [[]]⟩] ?_ ?_; decide +kernel; conv => whnf) | (refine draw_any hE [⟨2, [(0, none), (1, none), (2, none), (3, none), (5, none), (6, none), (4, some 0), (7, some 1)], some 8, [0, 1, 2], [[], [0], [2], [0, 2], [1, 2], [0, 1, 2]]⟩, ⟨0, [(9, none), (10, none), (11, none), (12, none), (13, none), (14, none)], none, [], [[]]⟩] ?_ ?_; decide +kernel; conv => whnf) | (refine brd (fun h => ?_) (fun h => ?_) <;> conv => whnf) | (refine br (fun h => ?_) (fun h => ?_) <;> conv => whnf) | (refine ret_now hE ?_; conv => whnf) | (intro hlen; conv => whnf) | (refine seg_here ?_; conv => whnf) | (refine both ?_ ?_ <;> conv => whnf))
      refine ⟨rfl, ?_⟩
      rw [hI2]
      exact flV_nl (.ok out)
end Go.Proofs.YtaapdbcbefnhgaaDoor

/-! marks.Flat and the document's MarksFlat; the law MarksFlats. No conditions. -/
namespace Go.Proofs.YtaapdbcbefnhgaaDoor
open Go.RowKit

theorem fn1_anl {P : Program} {f : FuncId} {args : List V} {R : V → Prop} (h : Fn1 P f (nlL args) R) : Fn1 P f args R := by
  intro w I vs h1 h2 h3
  exact h w I vs (by rw [nlL_length]; exact h1) (fun i v x hv hx => by
    obtain ⟨y, hy, rfl⟩ := nlL_get args i x hx
    exact (h2 i v y hv hy).nl) h3
/-- What is answered. -/
def flatR (L : List (List UInt8)) (l : List Nd) : V := if marksCode L = 0 then (match flL L [] l with | .bad c => .tup [.lst [], .int .i64 c] | .ok r => refN L r) else .tup [.lst [], .int .i64 (marksCode L)]
theorem refN_nl (L : List (List UInt8)) (r : List Rn) : (refN L r).nl = refN L r := by
  obtain ⟨o, c, e⟩ := refN_two L r
  rw [e]
  simp [V.nl, nlL, nl_rnL]
theorem flat_nil {P : Program} {f : FuncId} {L : List (List UInt8)} {l : List Nd} {R : V → Prop} (h : Fn1 P f [.lst (L.map V.str), .lst (nodesL l), .lst (([] : List (List UInt8)).map V.str)] R) : Fn1 P f [.lst (L.map V.str), .lst (nodesL l), .nils] R :=
  fn1_anl (by simp only [nlL, V.nl, nl_nodes, nl_strL]; exact h)
set_option maxHeartbeats 8000000 in
theorem marks_Flat (L : List (List UInt8)) (l : List Nd) (hN : szL l ≤ 1048576) : Fn1G Tryd.prog GA 18 [.lst (L.map V.str), .lst (nodesL l)] (fun r => r = flatR L l) := by
  have hck := marks_check L
  refine fn1G_nl ?_
  by_cases hc : marksCode L = 0
  · rw [hc] at hck
    have hfl := flat_nil (marks_flat L (szL l) l [] (Nat.le_refl _) hN (by simp; omega))
    cases hf : flL L [] l with
    | bad c =>
      have hr : flatR L l = .tup [.lst [], .int .i64 c] := by unfold flatR; rw [if_pos hc, hf]
      rw [hf] at hfl
      rw [hr]
      have hc2 := flL_err L l [] c hf
      have hc0 : ¬ c = 0 := by omega
      refine fn1GE (T := Tryd.tt) Tryd.func18 rfl tt_all follows_all ?_ ?_ fun C hC hW hG hE => ?_
      · kernel_rfl
      · exact Nat.le_of_ble_eq_true (by kernel_rfl)
      conv => whnf
      have hk := hck.c hC hW kept_ga hG
      repeat' (first | (refine brd_t (by first | assumption | omega) ?_; conv => whnf) | (refine brd_f (by first | assumption | omega) ?_; conv => whnf) | (refine ask (by first | assumption | omega) ?_; conv => whnf) | (refine fit64 (by omega) ?_; conv => whnf) | (refine fit (by simp only [kmin, kmax]; omega) ?_; conv => whnf) | (refine br_t (by assumption) ?_; conv => whnf) | (refine br_f (by assumption) ?_; conv => whnf) | (refine get_of (by assumption) ?_; conv => whnf) | (refine get_map (by assumption) ?_; conv => whnf) | (refine callc_eq (hk) hC hasBody_11 rfl ?_ ?_ ?_; kernel_rfl; kernel_rfl; conv => whnf) | (refine callcq_eq (hk) hC hasBody_11 rfl ?_ ?_ ?_; kernel_rfl; kernel_rfl; conv => whnf) | (refine brd_f (fun h => absurd rfl h) ?_; conv => whnf) | (refine call_eq (hfl) hC hasBody_43 ?_ ?_ ?_; kernel_rfl; kernel_rfl; conv => whnf) | (refine callq_eq (hfl) hC hasBody_43 ?_ ?_ ?_; kernel_rfl; kernel_rfl; conv => whnf) | (refine draw_lex hE ?_ ?_; decide +kernel; conv => whnf) | (refine brd (fun h => ?_) (fun h => ?_) <;> conv => whnf) | (refine br (fun h => ?_) (fun h => ?_) <;> conv => whnf) | (refine ret_now hE ?_; conv => whnf) | (intro hlen; conv => whnf) | (refine seg_here ?_; conv => whnf) | (refine both ?_ ?_ <;> conv => whnf))
      exact ⟨rfl, rfl⟩
    | ok r =>
      have hr : flatR L l = refN L r := by unfold flatR; rw [if_pos hc, hf]
      rw [hf] at hfl
      have hno := marks_Norm L r (by have := (flL_sz L l [] r hf).2; omega)
      rw [hr, ← refN_nl]
      obtain ⟨o, c, e⟩ := refN_two L r
      rw [e] at hno ⊢
      refine fn1GE (T := Tryd.tt) Tryd.func18 rfl tt_all follows_all ?_ ?_ fun C hC hW hG hE => ?_
      · kernel_rfl
      · exact Nat.le_of_ble_eq_true (by kernel_rfl)
      conv => whnf
      have hk := hck.c hC hW kept_ga hG
      have hk2 := hno.c hC hW kept_ga hG
      repeat' (first | (refine brd_t (by first | assumption | omega) ?_; conv => whnf) | (refine brd_f (by first | assumption | omega) ?_; conv => whnf) | (refine ask (by first | assumption | omega) ?_; conv => whnf) | (refine fit64 (by omega) ?_; conv => whnf) | (refine fit (by simp only [kmin, kmax]; omega) ?_; conv => whnf) | (refine br_t (by assumption) ?_; conv => whnf) | (refine br_f (by assumption) ?_; conv => whnf) | (refine get_of (by assumption) ?_; conv => whnf) | (refine get_map (by assumption) ?_; conv => whnf) | (refine callc_eq (hk) hC hasBody_11 rfl ?_ ?_ ?_; kernel_rfl; kernel_rfl; conv => whnf) | (refine callcq_eq (hk) hC hasBody_11 rfl ?_ ?_ ?_; kernel_rfl; kernel_rfl; conv => whnf) | (refine callc_eq (hk2) hC hasBody_13 rfl ?_ ?_ ?_; kernel_rfl; kernel_rfl; conv => whnf) | (refine callcq_eq (hk2) hC hasBody_13 rfl ?_ ?_ ?_; kernel_rfl; kernel_rfl; conv => whnf) | (refine brd_f (fun h => absurd rfl h) ?_; conv => whnf) | (refine call_eq (hfl) hC hasBody_43 ?_ ?_ ?_; kernel_rfl; kernel_rfl; conv => whnf) | (refine callq_eq (hfl) hC hasBody_43 ?_ ?_ ?_; kernel_rfl; kernel_rfl; conv => whnf) | (refine draw_lex hE ?_ ?_; decide +kernel; conv => whnf) | (refine brd (fun h => ?_) (fun h => ?_) <;> conv => whnf) | (refine br (fun h => ?_) (fun h => ?_) <;> conv => whnf) | (refine ret_now hE ?_; conv => whnf) | (intro hlen; conv => whnf) | (refine seg_here ?_; conv => whnf) | (refine both ?_ ?_ <;> conv => whnf))
      exact ⟨rfl, rfl⟩
  · have hr : flatR L l = .tup [.lst [], .int .i64 (marksCode L)] := by unfold flatR; rw [if_neg hc]
    rw [hr]
    generalize marksCode L = c at hc hck
    refine fn1GE (T := Tryd.tt) Tryd.func18 rfl tt_all follows_all ?_ ?_ fun C hC hW hG hE => ?_
    · kernel_rfl
    · exact Nat.le_of_ble_eq_true (by kernel_rfl)
    conv => whnf
    have hk := hck.c hC hW kept_ga hG
    repeat' (first | (refine brd_t (by first | assumption | omega) ?_; conv => whnf) | (refine brd_f (by first | assumption | omega) ?_; conv => whnf) | (refine ask (by first | assumption | omega) ?_; conv => whnf) | (refine fit64 (by omega) ?_; conv => whnf) | (refine fit (by simp only [kmin, kmax]; omega) ?_; conv => whnf) | (refine br_t (by assumption) ?_; conv => whnf) | (refine br_f (by assumption) ?_; conv => whnf) | (refine get_of (by assumption) ?_; conv => whnf) | (refine get_map (by assumption) ?_; conv => whnf) | (refine callc_eq (hk) hC hasBody_11 rfl ?_ ?_ ?_; kernel_rfl; kernel_rfl; conv => whnf) | (refine callcq_eq (hk) hC hasBody_11 rfl ?_ ?_ ?_; kernel_rfl; kernel_rfl; conv => whnf) | (refine draw_lex hE ?_ ?_; decide +kernel; conv => whnf) | (refine brd (fun h => ?_) (fun h => ?_) <;> conv => whnf) | (refine br (fun h => ?_) (fun h => ?_) <;> conv => whnf) | (refine ret_now hE ?_; conv => whnf) | (intro hlen; conv => whnf) | (refine seg_here ?_; conv => whnf) | (refine both ?_ ?_ <;> conv => whnf))
    exact ⟨rfl, rfl⟩
set_option maxHeartbeats 8000000 in
theorem doc_Flat (L : List (List UInt8)) (l : List Nd) (hN : szL l ≤ 1048576) : Fn1 Tryd.prog 19 [.lst (L.map V.str), .lst (nodesL l)] (fun r => r = flatR L l) := by
  have hck := marks_fault L
  refine fn1_nl ?_
  by_cases hc : marksCode L = 0
  · rw [hc] at hck
    have hfl := flat_nil (ref_flat L (szL l) l [] (Nat.le_refl _) hN (by simp; omega))
    cases hf : flL L [] l with
    | bad c =>
      have hr : flatR L l = .tup [.lst [], .int .i64 c] := by unfold flatR; rw [if_pos hc, hf]
      rw [hf] at hfl
      rw [hr]
      have hc2 := flL_err L l [] c hf
      have hc0 : ¬ c = 0 := by omega
      refine fn1E (T := Tryd.tt) Tryd.func19 rfl tt_all follows_all ?_ ?_ fun C hC hE => ?_
      · kernel_rfl
      · exact Nat.le_of_ble_eq_true (by kernel_rfl)
      conv => whnf
      repeat' (first | (refine brd_t (by first | assumption | omega) ?_; conv => whnf) | (refine brd_f (by first | assumption | omega) ?_; conv => whnf) | (refine ask (by first | assumption | omega) ?_; conv => whnf) | (refine fit64 (by omega) ?_; conv => whnf) | (refine fit (by simp only [kmin, kmax]; omega) ?_; conv => whnf) | (refine br_t (by assumption) ?_; conv => whnf) | (refine br_f (by assumption) ?_; conv => whnf) | (refine get_of (by assumption) ?_; conv => whnf) | (refine get_map (by assumption) ?_; conv => whnf) | (refine call_eq (hck) hC hasBody_12 ?_ ?_ ?_; kernel_rfl; kernel_rfl; conv => whnf) | (refine callq_eq (hck) hC hasBody_12 ?_ ?_ ?_; kernel_rfl; kernel_rfl; conv => whnf) | (refine brd_f (fun h => absurd rfl h) ?_; conv => whnf) | (refine call_eq (hfl) hC hasBody_44 ?_ ?_ ?_; kernel_rfl; kernel_rfl; conv => whnf) | (refine callq_eq (hfl) hC hasBody_44 ?_ ?_ ?_; kernel_rfl; kernel_rfl; conv => whnf) | (refine draw_lex hE ?_ ?_; decide +kernel; conv => whnf) | (refine brd (fun h => ?_) (fun h => ?_) <;> conv => whnf) | (refine br (fun h => ?_) (fun h => ?_) <;> conv => whnf) | (refine ret_now hE ?_; conv => whnf) | (intro hlen; conv => whnf) | (refine seg_here ?_; conv => whnf) | (refine both ?_ ?_ <;> conv => whnf))
      exact ⟨rfl, rfl⟩
    | ok r =>
      have hr : flatR L l = refN L r := by unfold flatR; rw [if_pos hc, hf]
      rw [hf] at hfl
      have hno := ref_norm L r (by have := (flL_sz L l [] r hf).2; omega)
      rw [hr, ← refN_nl]
      obtain ⟨o, c, e⟩ := refN_two L r
      rw [e] at hno ⊢
      refine fn1E (T := Tryd.tt) Tryd.func19 rfl tt_all follows_all ?_ ?_ fun C hC hE => ?_
      · kernel_rfl
      · exact Nat.le_of_ble_eq_true (by kernel_rfl)
      conv => whnf
      repeat' (first | (refine brd_t (by first | assumption | omega) ?_; conv => whnf) | (refine brd_f (by first | assumption | omega) ?_; conv => whnf) | (refine ask (by first | assumption | omega) ?_; conv => whnf) | (refine fit64 (by omega) ?_; conv => whnf) | (refine fit (by simp only [kmin, kmax]; omega) ?_; conv => whnf) | (refine br_t (by assumption) ?_; conv => whnf) | (refine br_f (by assumption) ?_; conv => whnf) | (refine get_of (by assumption) ?_; conv => whnf) | (refine get_map (by assumption) ?_; conv => whnf) | (refine call_eq (hck) hC hasBody_12 ?_ ?_ ?_; kernel_rfl; kernel_rfl; conv => whnf) | (refine callq_eq (hck) hC hasBody_12 ?_ ?_ ?_; kernel_rfl; kernel_rfl; conv => whnf) | (refine call_eq (hno) hC hasBody_14 ?_ ?_ ?_; kernel_rfl; kernel_rfl; conv => whnf) | (refine callq_eq (hno) hC hasBody_14 ?_ ?_ ?_; kernel_rfl; kernel_rfl; conv => whnf) | (refine brd_f (fun h => absurd rfl h) ?_; conv => whnf) | (refine call_eq (hfl) hC hasBody_44 ?_ ?_ ?_; kernel_rfl; kernel_rfl; conv => whnf) | (refine callq_eq (hfl) hC hasBody_44 ?_ ?_ ?_; kernel_rfl; kernel_rfl; conv => whnf) | (refine draw_lex hE ?_ ?_; decide +kernel; conv => whnf) | (refine brd (fun h => ?_) (fun h => ?_) <;> conv => whnf) | (refine br (fun h => ?_) (fun h => ?_) <;> conv => whnf) | (refine ret_now hE ?_; conv => whnf) | (intro hlen; conv => whnf) | (refine seg_here ?_; conv => whnf) | (refine both ?_ ?_ <;> conv => whnf))
      exact ⟨rfl, rfl⟩
  · have hr : flatR L l = .tup [.lst [], .int .i64 (marksCode L)] := by unfold flatR; rw [if_neg hc]
    rw [hr]
    generalize marksCode L = c at hc hck
    refine fn1E (T := Tryd.tt) Tryd.func19 rfl tt_all follows_all ?_ ?_ fun C hC hE => ?_
    · kernel_rfl
    · exact Nat.le_of_ble_eq_true (by kernel_rfl)
    conv => whnf
    repeat' (first | (refine brd_t (by first | assumption | omega) ?_; conv => whnf) | (refine brd_f (by first | assumption | omega) ?_; conv => whnf) | (refine ask (by first | assumption | omega) ?_; conv => whnf) | (refine fit64 (by omega) ?_; conv => whnf) | (refine fit (by simp only [kmin, kmax]; omega) ?_; conv => whnf) | (refine br_t (by assumption) ?_; conv => whnf) | (refine br_f (by assumption) ?_; conv => whnf) | (refine get_of (by assumption) ?_; conv => whnf) | (refine get_map (by assumption) ?_; conv => whnf) | (refine call_eq (hck) hC hasBody_12 ?_ ?_ ?_; kernel_rfl; kernel_rfl; conv => whnf) | (refine callq_eq (hck) hC hasBody_12 ?_ ?_ ?_; kernel_rfl; kernel_rfl; conv => whnf) | (refine draw_lex hE ?_ ?_; decide +kernel; conv => whnf) | (refine brd (fun h => ?_) (fun h => ?_) <;> conv => whnf) | (refine br (fun h => ?_) (fun h => ?_) <;> conv => whnf) | (refine ret_now hE ?_; conv => whnf) | (intro hlen; conv => whnf) | (refine seg_here ?_; conv => whnf) | (refine both ?_ ?_ <;> conv => whnf))
    exact ⟨rfl, rfl⟩
theorem flatR_two (L : List (List UInt8)) (l : List Nd) : ∃ (o : List Rn) (c : Int), flatR L l = .tup [.lst (o.map rnA), .int .i64 c] := by
  unfold flatR
  split
  · split
    · exact ⟨[], _, rfl⟩
    · exact refN_two L _
  · exact ⟨[], _, rfl⟩
theorem marksFlats_law (L : List (List UInt8)) (l : List Nd) (hN : szL l ≤ 1048576) : Fn1G Tryd.prog GA 7 [.lst (L.map V.str), .lst (nodesL l)] (fun r => r = .bool true) := by
  have hr := doc_Flat L l hN
  have hn := marks_Flat L l hN
  obtain ⟨o, c, e⟩ := flatR_two L l
  rw [e] at hr hn
  have hsr := same_runs o
  refine fn1GE (T := Tryd.tt) Tryd.func7 rfl tt_all follows_all ?_ ?_ fun C hC hW hG hE => ?_
  · kernel_rfl
  · exact Nat.le_of_ble_eq_true (by kernel_rfl)
  conv => whnf
  have hk := hn.c hC hW kept_ga hG
  repeat' (first | (refine brd_t (by first | assumption | omega) ?_; conv => whnf) | (refine brd_f (by first | assumption | omega) ?_; conv => whnf) | (refine ask (by first | assumption | omega) ?_; conv => whnf) | (refine fit64 (by omega) ?_; conv => whnf) | (refine fit (by simp only [kmin, kmax]; omega) ?_; conv => whnf) | (refine br_t (by assumption) ?_; conv => whnf) | (refine br_f (by assumption) ?_; conv => whnf) | (refine get_of (by assumption) ?_; conv => whnf) | (refine get_map (by assumption) ?_; conv => whnf) | (refine callc_eq (hk) hC hasBody_18 rfl ?_ ?_ ?_; kernel_rfl; kernel_rfl; conv => whnf) | (refine callcq_eq (hk) hC hasBody_18 rfl ?_ ?_ ?_; kernel_rfl; kernel_rfl; conv => whnf) | (refine call_eq (hr) hC hasBody_19 ?_ ?_ ?_; kernel_rfl; kernel_rfl; conv => whnf) | (refine callq_eq (hr) hC hasBody_19 ?_ ?_ ?_; kernel_rfl; kernel_rfl; conv => whnf) | (refine call_eq (hsr) hC hasBody_15 ?_ ?_ ?_; kernel_rfl; kernel_rfl; conv => whnf) | (refine callq_eq (hsr) hC hasBody_15 ?_ ?_ ?_; kernel_rfl; kernel_rfl; conv => whnf) | (refine brd_t rfl ?_; conv => whnf) | (refine draw_lex hE ?_ ?_; decide +kernel; conv => whnf) | (refine brd (fun h => ?_) (fun h => ?_) <;> conv => whnf) | (refine br (fun h => ?_) (fun h => ?_) <;> conv => whnf) | (refine ret_now hE ?_; conv => whnf) | (intro hlen; conv => whnf) | (refine seg_here ?_; conv => whnf) | (refine both ?_ ?_ <;> conv => whnf))
  all_goals exact ⟨rfl, rfl⟩
end Go.Proofs.YtaapdbcbefnhgaaDoor
