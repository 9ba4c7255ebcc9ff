/- The document's merged, ruled; rules.Apply; the law RulesApplies. No conditions. -/
import Derived.Test.YteekfmflecgjmaaOf
import Derived.Test.YteekfmflecgjmaaSame
set_option linter.unusedSimpArgs false
set_option linter.unusedVariables false
set_option maxRecDepth 100000
namespace Go.Proofs.Yteekfmflecgjmaa
open Go.RowKit

set_option maxHeartbeats 8000000 in
theorem doc_merged (l : List Nd) (hsz : cL l ≤ 1048576) : Fn1 Try.prog 34 [.lst (nodesL l)] (fun r => r = .lst (nodesL (mgT [] l))) := by
  have hlm := nodesL_length l
  have hll := cL_len l
  refine fn1E (T := Try.tt) Try.func34 rfl tt_all follows_all ?_ ?_ fun C hC hE => ?_
  · kernel_rfl
  · exact Nat.le_of_ble_eq_true (by kernel_rfl)
  conv => whnf
  repeat' (first | (refine brd_t (by first | assumption | omega) ?_; conv => whnf) | (refine brd_f (by first | assumption | omega) ?_; conv => whnf) | (refine ask (by first | assumption | omega) ?_; conv => whnf) | (refine fit64 (by omega) ?_; conv => whnf) | (refine fit (by simp only [kmin, kmax]; omega) ?_; conv => whnf) | (refine br_t (by assumption) ?_; conv => whnf) | (refine br_f (by assumption) ?_; conv => whnf) | (refine get_of (by assumption) ?_; conv => whnf) | (refine get_map (by assumption) ?_; conv => whnf) | (refine brd (fun h => ?_) (fun h => ?_) <;> conv => whnf) | (refine br (fun h => ?_) (fun h => ?_) <;> conv => whnf) | (refine ret_now hE ?_; conv => whnf) | (intro hlen; conv => whnf))
  refine loopE (fun ((i, out, tx) : Nat × List Nd × List UInt8) => ⟨50, [(0, .lst (nodesL l)), (3, .sl 0 0 out.length), (4, .str tx), (5, .int .i64 i)], [some (.row 4 (nodesL out))]⟩)
    (fun (i, out, tx) => i ≤ l.length + 1 ∧ out.length ≤ 2 * i ∧ tx.length ≤ cL (l.take i) ∧ (i = l.length + 1 → tx = []) ∧ out ++ mgT tx (l.drop i) = mgT [] l) (fun (i, _, _) => l.length + 1 - i) (0, [], []) hE ?_ ?_ ⟨Nat.zero_le _, Nat.zero_le _, Nat.zero_le _, fun _ => rfl, rfl⟩ ?_
  · kernel_rfl
  · exact up_own 3 4 rfl rfl (at_keep [0, 3, 4, 5] rfl)
  rintro ⟨i, out, tx⟩ ⟨hi, ho, htx, hend, hI⟩
  have hom := nodesL_length out
  have htl := cL_take_le l i
  have htk : List.take out.length (List.drop 0 (nodesL out)) = nodesL out := by rw [List.drop_zero]; exact List.take_of_length_le (by omega)
  by_cases hle : i ≤ l.length
  · have e3 : out.length + (List.take 1 (List.drop 0 [V.agg [.str [], .nils, .str tx, .nils]])).length = (out ++ [txN tx]).length := by simp
    have e4 : killL 1 (nlL (killL 0 (List.take out.length (List.drop 0 (nodesL out)) ++ List.take 1 (List.drop 0 [V.agg [.str [], .nils, .str tx, .nils]])))) = nodesL (out ++ [txN tx]) := by
      rw [htk, kill_nrL _ ((nrL_append _ _).2 ⟨nodesL_nr _, nrB_nrL (List.take 1 (List.drop 0 [V.agg [.str [], .nils, .str tx, .nils]])) rfl⟩), nlL_append, nl_nodes]
      have : nlL (List.take 1 (List.drop 0 [V.agg [.str [], .nils, .str tx, .nils]])) = nodesL [txN tx] := by simp [nlL, V.nl, nodesL, nodeA_mk, txN]
      rw [this, ← nodesL_append, kill_nodes]
    by_cases hlt : i < l.length
    · obtain ⟨n, a, t, qs, hx, hx'⟩ := node_at hlt
      have hct := cL_take hx
      change cL (l.take (i + 1)) = cL (l.take i) + (1 + t.length) at hct
      have hct2 := cL_take_le l (i + 1)
      have hst : mgT tx (l.drop i) = if n = [] then mgT (tx ++ t) (l.drop (i + 1)) else (if tx = [] then [] else [txN tx]) ++ .mk n a t qs :: mgT [] (l.drop (i + 1)) := by
        obtain ⟨h1, h2⟩ := List.getElem?_eq_some_iff.1 hx
        rw [List.drop_eq_getElem_cons hlt, h2, mgT]
        rfl
      rw [hst] at hI
      by_cases hn : n = []
      · rw [if_pos hn] at hI
        conv => whnf
        repeat' (first | (refine brd_t (by first | assumption | omega) ?_; conv => whnf) | (refine brd_f (by first | assumption | omega) ?_; conv => whnf) | (refine ask (by first | assumption | omega) ?_; conv => whnf) | (refine fit64 (by omega) ?_; conv => whnf) | (refine fit (by simp only [kmin, kmax]; omega) ?_; conv => whnf) | (refine br_t (by assumption) ?_; conv => whnf) | (refine br_f (by assumption) ?_; conv => whnf) | (refine get_of (by assumption) ?_; conv => whnf) | (refine get_map (by assumption) ?_; conv => whnf) | (refine ask (Nat.le_refl 1) ?_; conv => whnf) | (refine ask (by omega) ?_; conv => whnf) | (refine ask ⟨?_, ?_, ?_⟩ ?_; omega; (show _ + 1 ≤ 9223372036854775807; omega); (show (_ + 1) * 80 ≤ 140737488355328; omega); conv => whnf) | (refine brd (fun h => ?_) (fun h => ?_) <;> conv => whnf) | (refine br (fun h => ?_) (fun h => ?_) <;> conv => whnf) | (refine ret_now hE ?_; conv => whnf) | (intro hlen; conv => whnf))
        refine next_keep [0, 3, 4, 5] (i + 1, out, tx ++ t) ⟨by omega, by omega, (show (tx ++ t).length ≤ cL (l.take (i + 1)) by rw [List.length_append]; omega), fun h => by omega, hI⟩ (show l.length + 1 - (i + 1) < l.length + 1 - i by omega) rfl
      · rw [if_neg hn] at hI
        by_cases hte : tx = []
        · rw [if_pos hte, List.nil_append] at hI
          conv => whnf
          repeat' (first | (refine brd_t (by first | assumption | omega) ?_; conv => whnf) | (refine brd_f (by first | assumption | omega) ?_; conv => whnf) | (refine ask (by first | assumption | omega) ?_; conv => whnf) | (refine fit64 (by omega) ?_; conv => whnf) | (refine fit (by simp only [kmin, kmax]; omega) ?_; conv => whnf) | (refine br_t (by assumption) ?_; conv => whnf) | (refine br_f (by assumption) ?_; conv => whnf) | (refine get_of (by assumption) ?_; conv => whnf) | (refine get_map (by assumption) ?_; conv => whnf) | (refine ask (Nat.le_refl 1) ?_; conv => whnf) | (refine ask (by omega) ?_; conv => whnf) | (refine ask ⟨?_, ?_, ?_⟩ ?_; omega; (show _ + 1 ≤ 9223372036854775807; omega); (show (_ + 1) * 80 ≤ 140737488355328; omega); conv => whnf) | (refine brd (fun h => ?_) (fun h => ?_) <;> conv => whnf) | (refine br (fun h => ?_) (fun h => ?_) <;> conv => whnf) | (refine ret_now hE ?_; conv => whnf) | (intro hlen; conv => whnf))
          refine next_drop [0, 3, 4, 5] [1] (i + 1, out ++ [.mk n a t qs], tx) ⟨by omega, (show (out ++ [Nd.mk n a t qs]).length ≤ 2 * (i + 1) by simp; omega), (show tx.length ≤ cL (l.take (i + 1)) by omega), fun h => by omega, (show (out ++ [Nd.mk n a t qs]) ++ mgT tx (l.drop (i + 1)) = mgT [] l by rw [hte, ← hI]; simp)⟩ (show l.length + 1 - (i + 1) < l.length + 1 - i by omega) ?_
          have e5 : out.length + (List.take 1 (List.drop 0 [V.agg [.str n, .lst (a.map attA), .str t, .lst (nodesL qs)]])).length = (out ++ [Nd.mk n a t qs]).length := by simp
          have e6 : killL 1 (killL 0 (List.take out.length (List.drop 0 (nodesL out)) ++ List.take 1 (List.drop 0 [V.agg [.str n, .lst (a.map attA), .str t, .lst (nodesL qs)]]))) = nodesL (out ++ [.mk n a t qs]) := by
            rw [htk, show nodesL out ++ List.take 1 (List.drop 0 [V.agg [.str n, .lst (a.map attA), .str t, .lst (nodesL qs)]]) = nodesL (out ++ [.mk n a t qs]) by rw [nodesL_append]; simp [nodesL, nodeA_mk], kill_nodes, kill_nodes]
          conv => whnf
          rw [e5, e6]
          rfl
        · rw [if_neg hte] at hI
          have hk1 : killL 0 (List.take out.length (List.drop 0 (nodesL out)) ++ List.take 1 (List.drop 0 [V.agg [.str [], .nils, .str tx, .nils]])) = nodesL out ++ [V.agg [.str [], .nils, .str tx, .nils]] := by
            rw [htk, kill_nrL _ ((nrL_append _ _).2 ⟨nodesL_nr _, nrB_nrL (List.take 1 (List.drop 0 [V.agg [.str [], .nils, .str tx, .nils]])) rfl⟩)]
            rfl
          have e7 : out.length + (List.take 1 (List.drop 0 [V.agg [.str [], .nils, .str tx, .nils]])).length + (List.take 1 (List.drop 0 [V.agg [.str n, .lst (a.map attA), .str t, .lst (nodesL qs)]])).length = (out ++ [txN tx, Nd.mk n a t qs]).length := by simp
          have e8 : killL 2 (killL 1 (nlL (killL 0 (List.take (out.length + (List.take 1 (List.drop 0 [V.agg [.str [], .nils, .str tx, .nils]])).length) (List.drop 0 (killL 0 (List.take out.length (List.drop 0 (nodesL out)) ++ List.take 1 (List.drop 0 [V.agg [.str [], .nils, .str tx, .nils]])))) ++ List.take 1 (List.drop 0 [V.agg [.str n, .lst (a.map attA), .str t, .lst (nodesL qs)]]))))) = nodesL (out ++ [txN tx, .mk n a t qs]) := by
            have h1 : nlL [V.agg [.str [], .nils, .str tx, .nils]] = nodesL [txN tx] := by simp [nlL, V.nl, nodesL, nodeA_mk, txN]
            have h2 : List.take 1 (List.drop 0 [V.agg [.str n, .lst (a.map attA), .str t, .lst (nodesL qs)]]) = nodesL [.mk n a t qs] := by simp [nodesL, nodeA_mk]
            have h3 : List.take (out.length + (List.take 1 (List.drop 0 [V.agg [.str [], .nils, .str tx, .nils]])).length) (List.drop 0 (nodesL out ++ [V.agg [.str [], .nils, .str tx, .nils]])) = nodesL out ++ [V.agg [.str [], .nils, .str tx, .nils]] := by
              rw [List.drop_zero (l := nodesL out ++ _)]; exact List.take_of_length_le (by simp; omega)
            rw [hk1, h3, h2, kill_nrL _ ((nrL_append _ _).2 ⟨(nrL_append _ _).2 ⟨nodesL_nr _, nrB_nrL [V.agg [.str [], .nils, .str tx, .nils]] rfl⟩, nodesL_nr [.mk n a t qs]⟩), nlL_append, nlL_append, nl_nodes, nl_nodes, h1, ← nodesL_append, ← nodesL_append, kill_nodes, kill_nodes]
            simp
          conv => whnf
          repeat' (first | (refine brd_t (by first | assumption | omega) ?_; conv => whnf) | (refine brd_f (by first | assumption | omega) ?_; conv => whnf) | (refine ask (by first | assumption | omega) ?_; conv => whnf) | (refine fit64 (by omega) ?_; conv => whnf) | (refine fit (by simp only [kmin, kmax]; omega) ?_; conv => whnf) | (refine br_t (by assumption) ?_; conv => whnf) | (refine br_f (by assumption) ?_; conv => whnf) | (refine get_of (by assumption) ?_; conv => whnf) | (refine get_map (by assumption) ?_; conv => whnf) | (refine ask (Nat.le_refl 1) ?_; conv => whnf) | (refine ask (by omega) ?_; conv => whnf) | (refine ask ⟨?_, ?_, ?_⟩ ?_; (first | omega | (rw [hk1]; simp; omega)); (first | omega | (simp; omega)); (first | omega | (simp; omega)); conv => whnf) | (refine brd (fun h => ?_) (fun h => ?_) <;> conv => whnf) | (refine br (fun h => ?_) (fun h => ?_) <;> conv => whnf) | (refine ret_now hE ?_; conv => whnf) | (intro hlen; conv => whnf))
          refine up_nl 0 rfl (next_drop [0, 3, 4, 5] [1, 2] (i + 1, out ++ [txN tx, .mk n a t qs], []) ⟨by omega, (show (out ++ [txN tx, Nd.mk n a t qs]).length ≤ 2 * (i + 1) by simp; omega), Nat.zero_le _, fun h => by omega, (show (out ++ [txN tx, Nd.mk n a t qs]) ++ mgT [] (l.drop (i + 1)) = mgT [] l by rw [← hI]; simp)⟩ (show l.length + 1 - (i + 1) < l.length + 1 - i by omega) ?_)
          conv => whnf
          rw [e7, e8]
          rfl
    · have hd : l.drop i = [] := List.drop_eq_nil_of_le (by omega)
      rw [hd, mgT] at hI
      by_cases hte : tx = []
      · rw [if_pos hte] at hI
        conv => whnf
        repeat' (first | (refine brd_t (by first | assumption | omega) ?_; conv => whnf) | (refine brd_f (by first | assumption | omega) ?_; conv => whnf) | (refine ask (by first | assumption | omega) ?_; conv => whnf) | (refine fit64 (by omega) ?_; conv => whnf) | (refine fit (by simp only [kmin, kmax]; omega) ?_; conv => whnf) | (refine br_t (by assumption) ?_; conv => whnf) | (refine br_f (by assumption) ?_; conv => whnf) | (refine get_of (by assumption) ?_; conv => whnf) | (refine get_map (by assumption) ?_; conv => whnf) | (refine ask (Nat.le_refl 1) ?_; conv => whnf) | (refine ask (by omega) ?_; conv => whnf) | (refine ask ⟨?_, ?_, ?_⟩ ?_; omega; (show _ + 1 ≤ 9223372036854775807; omega); (show (_ + 1) * 80 ≤ 140737488355328; omega); conv => whnf) | (refine brd (fun h => ?_) (fun h => ?_) <;> conv => whnf) | (refine br (fun h => ?_) (fun h => ?_) <;> conv => whnf) | (refine ret_now hE ?_; conv => whnf) | (intro hlen; conv => whnf))
        refine next_keep [0, 3, 4, 5] (i + 1, out, tx) ⟨by omega, by omega, (show tx.length ≤ cL (l.take (i + 1)) by rw [hte]; exact Nat.zero_le _), fun _ => hte, (show out ++ mgT tx (l.drop (i + 1)) = mgT [] l by rw [List.drop_eq_nil_of_le (by omega), mgT, if_pos hte]; exact hI)⟩ (show l.length + 1 - (i + 1) < l.length + 1 - i by omega) rfl
      · rw [if_neg hte] at hI
        conv => whnf
        repeat' (first | (refine brd_t (by first | assumption | omega) ?_; conv => whnf) | (refine brd_f (by first | assumption | omega) ?_; conv => whnf) | (refine ask (by first | assumption | omega) ?_; conv => whnf) | (refine fit64 (by omega) ?_; conv => whnf) | (refine fit (by simp only [kmin, kmax]; omega) ?_; conv => whnf) | (refine br_t (by assumption) ?_; conv => whnf) | (refine br_f (by assumption) ?_; conv => whnf) | (refine get_of (by assumption) ?_; conv => whnf) | (refine get_map (by assumption) ?_; conv => whnf) | (refine ask (Nat.le_refl 1) ?_; conv => whnf) | (refine ask (by omega) ?_; conv => whnf) | (refine ask ⟨?_, ?_, ?_⟩ ?_; omega; (show _ + 1 ≤ 9223372036854775807; omega); (show (_ + 1) * 80 ≤ 140737488355328; omega); conv => whnf) | (refine brd (fun h => ?_) (fun h => ?_) <;> conv => whnf) | (refine br (fun h => ?_) (fun h => ?_) <;> conv => whnf) | (refine ret_now hE ?_; conv => whnf) | (intro hlen; conv => whnf))
        refine up_nl 0 rfl (next_drop [0, 3, 4, 5] [1] (i + 1, out ++ [txN tx], []) ⟨by omega, (show (out ++ [txN tx]).length ≤ 2 * (i + 1) by simp; omega), Nat.zero_le _, fun _ => rfl, (show (out ++ [txN tx]) ++ mgT [] (l.drop (i + 1)) = mgT [] l by rw [List.drop_eq_nil_of_le (by omega), mgT, if_pos rfl, List.append_nil]; exact hI)⟩ (show l.length + 1 - (i + 1) < l.length + 1 - i by omega) ?_)
        conv => whnf
        rw [e3, e4]
        rfl
  · have hd : l.drop i = [] := List.drop_eq_nil_of_le (by omega)
    rw [hd, mgT, if_pos (hend (by omega)), List.append_nil] at hI
    conv => whnf
    repeat' (first | (refine brd_t (by first | assumption | omega) ?_; conv => whnf) | (refine brd_f (by first | assumption | omega) ?_; conv => whnf) | (refine ask (by first | assumption | omega) ?_; conv => whnf) | (refine fit64 (by omega) ?_; conv => whnf) | (refine fit (by simp only [kmin, kmax]; omega) ?_; conv => whnf) | (refine br_t (by assumption) ?_; conv => whnf) | (refine br_f (by assumption) ?_; conv => whnf) | (refine get_of (by assumption) ?_; conv => whnf) | (refine get_map (by assumption) ?_; conv => whnf) | (refine ret_up (up_frzK 0 2 [] rfl (nodesL_nr _) rfl (by omega) rfl (up_here ?_))) | (refine brd (fun h => ?_) (fun h => ?_) <;> conv => whnf) | (refine br (fun h => ?_) (fun h => ?_) <;> conv => whnf) | (refine ret_now hE ?_; conv => whnf) | (intro hlen; conv => whnf))
    exact ⟨rfl, by rw [hI]⟩
theorem take_find {l : List Ru} {j : Nat} {r : Ru} (hr : l[j]? = some r) (n : List UInt8) : ruleOf (l.take (j + 1)) n = (ruleOf (l.take j) n).or (if r.1 = n then some r else none) := by
  unfold ruleOf
  rw [List.take_add_one, hr, List.find?_append]
  congr 1
  simp only [Option.toList_some, List.find?_cons, List.find?_nil]
  by_cases h : r.1 = n <;> simp [h]
theorem rule_hit {l : List Ru} (hz : rulesCode l = 0) {j : Nat} {r : Ru} (hr : l[j]? = some r) {n : List UInt8} (h : r.1 = n) : doOf (l.take (j + 1)) n = r.2.1 ∧ toOf (l.take (j + 1)) n = r.2.2 := by
  subst h
  have h1 := take_find hr r.1
  have h2 : ruleOf (l.take j) r.1 = none := rule_one hz hr
  rw [h2, if_pos rfl] at h1
  exact ⟨by unfold doOf; rw [h1]; rfl, by unfold toOf; rw [h1]; rfl⟩
theorem rule_skip {l : List Ru} {j : Nat} {r : Ru} (hr : l[j]? = some r) {n : List UInt8} (h : ¬ r.1 = n) : doOf (l.take (j + 1)) n = doOf (l.take j) n ∧ toOf (l.take (j + 1)) n = toOf (l.take j) n := by
  have h1 := take_find hr n
  rw [if_neg h, Option.or_none] at h1
  exact ⟨by unfold doOf; rw [h1], by unfold toOf; rw [h1]⟩
set_option maxHeartbeats 16000000 in
theorem doc_ruled (l : List Ru) (hz : rulesCode l = 0) : ∀ (N : Nat) (ns : List Nd), szL ns ≤ N → N ≤ 1048576 → Fn1 Try.prog 35 [rulesV l, .lst (nodesL ns)] (fun r => r = .lst (nodesL (rdL l ns))) := by
  have hrm : (l.map ruleA).length = l.length := by simp
  intro N
  induction N using Nat.strongRecOn with
  | _ N ih =>
    intro ns hps hN
    have hlm := nodesL_length ns
    have hll := szL_len ns
    refine fn1E (T := Try.tt) Try.func35 rfl tt_all follows_all ?_ ?_ fun C hC hE => ?_
    · kernel_rfl
    · exact Nat.le_of_ble_eq_true (by kernel_rfl)
    conv => whnf
    repeat' (first | (refine brd_t (by first | assumption | omega) ?_; conv => whnf) | (refine brd_f (by first | assumption | omega) ?_; conv => whnf) | (refine ask (by first | assumption | omega) ?_; conv => whnf) | (refine fit64 (by omega) ?_; conv => whnf) | (refine fit (by simp only [kmin, kmax]; omega) ?_; conv => whnf) | (refine br_t (by assumption) ?_; conv => whnf) | (refine br_f (by assumption) ?_; conv => whnf) | (refine get_of (by assumption) ?_; conv => whnf) | (refine get_map (by assumption) ?_; conv => whnf) | (refine brd (fun h => ?_) (fun h => ?_) <;> conv => whnf) | (refine br (fun h => ?_) (fun h => ?_) <;> conv => whnf) | (refine ret_now hE ?_; conv => whnf) | (intro hlen; conv => whnf))
    refine loopE (fun ((k, out) : Nat × List Nd) => ⟨70, [(0, rulesV l), (5, .sl 0 0 out.length), (12, .lst (nodesL ns)), (13, .int .i64 (nodesL ns).length), (14, .int .i64 k)], [some (.row 4 (nodesL out))]⟩)
      (fun (k, out) => k ≤ ns.length ∧ cL out ≤ szL (ns.take k) ∧ out ++ rdL l (ns.drop k) = rdL l ns) (fun (k, _) => ns.length - k) (0, []) hE ?_ ?_ ⟨Nat.zero_le _, Nat.zero_le _, rfl⟩ ?_
    · kernel_rfl
    · exact up_own 5 4 rfl rfl (at_keep [0, 5, 12, 13, 14] rfl)
    rintro ⟨k, out⟩ ⟨hk, hc, hI⟩
    have hom := nodesL_length out
    have hol := cL_len out
    have htk : List.take out.length (List.drop 0 (nodesL out)) = nodesL out := by rw [List.drop_zero]; exact List.take_of_length_le (by omega)
    by_cases hlt : k < ns.length
    · obtain ⟨n, a, t, qs, hx, hx'⟩ := node_at hlt
      have hst := rdL_step (l := l) hx
      rw [hst] at hI
      have hp2 := szL_mem (List.mem_of_getElem? hx)
      have e1 : szN (.mk n a t qs) = (n.length + 1) + ((a.map szA).sum + 1) + (t.length + 1) + (szL qs + 1) + 1 := by simp only [szN, szS]
      have hszk := szL_take hx
      have hszl := szL_take_le ns (k + 1)
      have hco := cL_rdN l (.mk n a t qs)
      have ih' := ih (szL qs) (by omega) qs (Nat.le_refl _) (by omega)
      have hcq := cL_rdL l qs
      have hql := nodesL_length (rdL l qs)
      have hqc := cL_len (rdL l qs)
      have hmg := doc_merged (rdL l qs) (by omega)
      conv => whnf
      repeat' (first | (refine brd_t (by first | assumption | omega) ?_; conv => whnf) | (refine brd_f (by first | assumption | omega) ?_; conv => whnf) | (refine ask (by first | assumption | omega) ?_; conv => whnf) | (refine fit64 (by omega) ?_; conv => whnf) | (refine fit (by simp only [kmin, kmax]; omega) ?_; conv => whnf) | (refine br_t (by assumption) ?_; conv => whnf) | (refine br_f (by assumption) ?_; conv => whnf) | (refine get_of (by assumption) ?_; conv => whnf) | (refine get_map (by assumption) ?_; conv => whnf) | (refine brd (fun h => ?_) (fun h => ?_) <;> conv => whnf) | (refine br (fun h => ?_) (fun h => ?_) <;> conv => whnf) | (refine ret_now hE ?_; conv => whnf) | (intro hlen; conv => whnf))
      refine loopE (fun j : Nat => ⟨70, [(0, rulesV l), (5, .sl 0 0 out.length), (7, .ptr 1 0 0), (8, .int .i64 (doOf (l.take j) n)), (9, .str (toOf (l.take j) n)), (12, .lst (nodesL ns)), (13, .int .i64 (nodesL ns).length), (14, .int .i64 k), (18, rulesV l), (19, .int .i64 (l.map ruleA).length), (20, .int .i64 j)], [some (.row 4 (nodesL out)), some (.row 4 [.agg [.str n, .lst (a.map attA), .str t, .lst (nodesL qs)]])]⟩) (fun j => j ≤ l.length) (fun j => l.length - j) 0 hE ?_ ?_ (Nat.zero_le _) ?_
      · kernel_rfl
      · exact at_keep [0, 5, 7, 8, 9, 12, 13, 14, 18, 19, 20] rfl
      intro j hj
      by_cases hjl : j < l.length
      · obtain ⟨r, hr⟩ : ∃ r, l[j]? = some r := ⟨_, List.getElem?_eq_getElem hjl⟩
        by_cases hrn : r.1 = n
        · have hh := rule_hit hz hr hrn
          conv => whnf
          repeat' (first | (refine brd_t (by first | assumption | omega) ?_; conv => whnf) | (refine brd_f (by first | assumption | omega) ?_; conv => whnf) | (refine ask (by first | assumption | omega) ?_; conv => whnf) | (refine fit64 (by omega) ?_; conv => whnf) | (refine fit (by simp only [kmin, kmax]; omega) ?_; conv => whnf) | (refine br_t (by assumption) ?_; conv => whnf) | (refine br_f (by assumption) ?_; conv => whnf) | (refine get_of (by assumption) ?_; conv => whnf) | (refine get_map (by assumption) ?_; conv => whnf) | (refine brd (fun h => ?_) (fun h => ?_) <;> conv => whnf) | (refine br (fun h => ?_) (fun h => ?_) <;> conv => whnf) | (refine ret_now hE ?_; conv => whnf) | (intro hlen; conv => whnf))
          refine next_drop [0, 5, 7, 8, 9, 12, 13, 14, 18, 19, 20] [2] (j + 1) (show j + 1 ≤ l.length by omega) (show l.length - (j + 1) < l.length - j by omega) ?_
          conv => whnf
          rw [hh.1, hh.2, kill_nodes]
          rfl
        · have hh := rule_skip hr hrn
          conv => whnf
          repeat' (first | (refine brd_t (by first | assumption | omega) ?_; conv => whnf) | (refine brd_f (by first | assumption | omega) ?_; conv => whnf) | (refine ask (by first | assumption | omega) ?_; conv => whnf) | (refine fit64 (by omega) ?_; conv => whnf) | (refine fit (by simp only [kmin, kmax]; omega) ?_; conv => whnf) | (refine br_t (by assumption) ?_; conv => whnf) | (refine br_f (by assumption) ?_; conv => whnf) | (refine get_of (by assumption) ?_; conv => whnf) | (refine get_map (by assumption) ?_; conv => whnf) | (refine brd (fun h => ?_) (fun h => ?_) <;> conv => whnf) | (refine br (fun h => ?_) (fun h => ?_) <;> conv => whnf) | (refine ret_now hE ?_; conv => whnf) | (intro hlen; conv => whnf))
          refine next_drop [0, 5, 7, 8, 9, 12, 13, 14, 18, 19, 20] [2] (j + 1) (show j + 1 ≤ l.length by omega) (show l.length - (j + 1) < l.length - j by omega) ?_
          conv => whnf
          rw [hh.1, hh.2, kill_nodes]
          rfl
      · have hfull : l.take j = l := List.take_of_length_le (by omega)
        rw [hfull]
        by_cases hn : n = []
        · rw [rdN, if_pos hn] at hI hco
          conv => whnf
          repeat' (first | (refine brd_t (by first | assumption | omega) ?_; conv => whnf) | (refine brd_f (by first | assumption | omega) ?_; conv => whnf) | (refine ask (by first | assumption | omega) ?_; conv => whnf) | (refine fit64 (by omega) ?_; conv => whnf) | (refine fit (by simp only [kmin, kmax]; omega) ?_; conv => whnf) | (refine br_t (by assumption) ?_; conv => whnf) | (refine br_f (by assumption) ?_; conv => whnf) | (refine get_of (by assumption) ?_; conv => whnf) | (refine get_map (by assumption) ?_; conv => whnf) | (refine ask (Nat.le_refl 1) ?_; conv => whnf) | (refine ask (by omega) ?_; conv => whnf) | (refine ask ⟨?_, ?_, ?_⟩ ?_; omega; (show _ + 1 ≤ 9223372036854775807; omega); (show (_ + 1) * 80 ≤ 140737488355328; omega); conv => whnf) | (refine brd (fun h => ?_) (fun h => ?_) <;> conv => whnf) | (refine br (fun h => ?_) (fun h => ?_) <;> conv => whnf) | (refine ret_now hE ?_; conv => whnf) | (intro hlen; conv => whnf))
          refine up_nl 0 rfl (next_drop [0, 5, 12, 13, 14] [1, 2] (k + 1, out ++ [txN t]) ⟨hlt, (show cL (out ++ [txN t]) ≤ szL (ns.take (k + 1)) by rw [cL_append]; omega), (show (out ++ [txN t]) ++ rdL l (ns.drop (k + 1)) = rdL l ns by rw [← hI]; simp)⟩ (show ns.length - (k + 1) < ns.length - k by omega) ?_)
          have e3 : out.length + (List.take 1 (List.drop 0 [V.agg [.str [], .nils, .str t, .nils]])).length = (out ++ [txN t]).length := by simp
          have e4 : killL 2 (killL 1 (nlL (killL 0 (List.take out.length (List.drop 0 (nodesL out)) ++ List.take 1 (List.drop 0 [V.agg [.str [], .nils, .str t, .nils]]))))) = nodesL (out ++ [txN t]) := by
            rw [htk, kill_nrL _ ((nrL_append _ _).2 ⟨nodesL_nr _, nrB_nrL (List.take 1 (List.drop 0 [V.agg [.str [], .nils, .str t, .nils]])) rfl⟩), nlL_append, nl_nodes]
            have : nlL (List.take 1 (List.drop 0 [V.agg [.str [], .nils, .str t, .nils]])) = nodesL [txN t] := by simp [nlL, V.nl, nodesL, nodeA_mk, txN]
            rw [this, ← nodesL_append, kill_nodes, kill_nodes]
          conv => whnf
          rw [e3, e4]
          rfl
        · by_cases h1 : doOf l n = 1
          · rw [rdN, if_neg hn, if_pos h1] at hI hco
            conv => whnf
            repeat' (first | (refine brd_t (by first | assumption | omega) ?_; conv => whnf) | (refine brd_f (by first | assumption | omega) ?_; conv => whnf) | (refine ask (by first | assumption | omega) ?_; conv => whnf) | (refine fit64 (by omega) ?_; conv => whnf) | (refine fit (by simp only [kmin, kmax]; omega) ?_; conv => whnf) | (refine br_t (by assumption) ?_; conv => whnf) | (refine br_f (by assumption) ?_; conv => whnf) | (refine get_of (by assumption) ?_; conv => whnf) | (refine get_map (by assumption) ?_; conv => whnf) | (refine call_eq (ih') hC hasBody_35 ?_ ?_ ?_; kernel_rfl; kernel_rfl; conv => whnf) | (refine callq_eq (ih') hC hasBody_35 ?_ ?_ ?_; kernel_rfl; kernel_rfl; conv => whnf) | (refine call_eq (hmg) hC hasBody_34 ?_ ?_ ?_; kernel_rfl; kernel_rfl; conv => whnf) | (refine callq_eq (hmg) hC hasBody_34 ?_ ?_ ?_; kernel_rfl; kernel_rfl; conv => whnf) | (refine ask (Nat.le_refl 1) ?_; conv => whnf) | (refine ask (by omega) ?_; conv => whnf) | (refine ask ⟨?_, ?_, ?_⟩ ?_; omega; (show _ + 1 ≤ 9223372036854775807; omega); (show (_ + 1) * 80 ≤ 140737488355328; omega); conv => whnf) | (refine brd (fun h => ?_) (fun h => ?_) <;> conv => whnf) | (refine br (fun h => ?_) (fun h => ?_) <;> conv => whnf) | (refine ret_now hE ?_; conv => whnf) | (intro hlen; conv => whnf))
            refine next_drop [0, 5, 12, 13, 14] [1, 2] (k + 1, out ++ [.mk (toOf l n) a [] (mgT [] (rdL l qs))]) ⟨hlt, (show cL (out ++ [Nd.mk (toOf l n) a [] (mgT [] (rdL l qs))]) ≤ szL (ns.take (k + 1)) by rw [cL_append]; omega), (show (out ++ [Nd.mk (toOf l n) a [] (mgT [] (rdL l qs))]) ++ rdL l (ns.drop (k + 1)) = rdL l ns by rw [← hI]; simp)⟩ (show ns.length - (k + 1) < ns.length - k by omega) ?_
            have e3 : out.length + (List.take 1 (List.drop 0 [V.agg [.str (toOf l n), .lst (a.map attA), .str [], .lst (nodesL (mgT [] (rdL l qs)))]])).length = (out ++ [Nd.mk (toOf l n) a [] (mgT [] (rdL l qs))]).length := by simp
            have e4 : killL 2 (killL 1 (killL 0 (List.take out.length (List.drop 0 (nodesL out)) ++ List.take 1 (List.drop 0 [V.agg [.str (toOf l n), .lst (a.map attA), .str [], .lst (nodesL (mgT [] (rdL l qs)))]])))) = nodesL (out ++ [.mk (toOf l n) a [] (mgT [] (rdL l qs))]) := by
              rw [htk, show nodesL out ++ List.take 1 (List.drop 0 [V.agg [.str (toOf l n), .lst (a.map attA), .str [], .lst (nodesL (mgT [] (rdL l qs)))]]) = nodesL (out ++ [.mk (toOf l n) a [] (mgT [] (rdL l qs))]) by rw [nodesL_append]; simp [nodesL, nodeA_mk], kill_nodes, kill_nodes, kill_nodes]
            conv => whnf
            rw [e3, e4]
            rfl
          · by_cases h2 : doOf l n = 2
            · rw [rdN, if_neg hn, if_neg h1, if_pos h2] at hI hco
              conv => whnf
              repeat' (first | (refine brd_t (by first | assumption | omega) ?_; conv => whnf) | (refine brd_f (by first | assumption | omega) ?_; conv => whnf) | (refine ask (by first | assumption | omega) ?_; conv => whnf) | (refine fit64 (by omega) ?_; conv => whnf) | (refine fit (by simp only [kmin, kmax]; omega) ?_; conv => whnf) | (refine br_t (by assumption) ?_; conv => whnf) | (refine br_f (by assumption) ?_; conv => whnf) | (refine get_of (by assumption) ?_; conv => whnf) | (refine get_map (by assumption) ?_; conv => whnf) | (refine call_eq (ih') hC hasBody_35 ?_ ?_ ?_; kernel_rfl; kernel_rfl; conv => whnf) | (refine callq_eq (ih') hC hasBody_35 ?_ ?_ ?_; kernel_rfl; kernel_rfl; conv => whnf) | (refine ⟨cells_nodes _, ?_⟩; conv => whnf) | (refine ask ⟨?_, ?_, ?_⟩ ?_; omega; (first | omega | (simp; omega)); (first | omega | (simp; omega)); conv => whnf) | (refine ask (Nat.le_refl 1) ?_; conv => whnf) | (refine ask (by omega) ?_; conv => whnf) | (refine ask ⟨?_, ?_, ?_⟩ ?_; omega; (show _ + 1 ≤ 9223372036854775807; omega); (show (_ + 1) * 80 ≤ 140737488355328; omega); conv => whnf) | (refine brd (fun h => ?_) (fun h => ?_) <;> conv => whnf) | (refine br (fun h => ?_) (fun h => ?_) <;> conv => whnf) | (refine ret_now hE ?_; conv => whnf) | (intro hlen; conv => whnf))
              refine next_drop [0, 5, 12, 13, 14] [1] (k + 1, out ++ rdL l qs) ⟨hlt, (show cL (out ++ rdL l qs) ≤ szL (ns.take (k + 1)) by rw [cL_append]; omega), (show (out ++ rdL l qs) ++ rdL l (ns.drop (k + 1)) = rdL l ns by rw [← hI]; simp)⟩ (show ns.length - (k + 1) < ns.length - k by omega) ?_
              have e3 : out.length + (nodesL (rdL l qs)).length = (out ++ rdL l qs).length := by rw [nodesL_length]; simp
              have e4 : killL 1 (killL 0 (List.take out.length (List.drop 0 (nodesL out)) ++ nodesL (rdL l qs))) = nodesL (out ++ rdL l qs) := by
                rw [htk, ← nodesL_append, kill_nodes, kill_nodes]
              conv => whnf
              rw [e3, e4]
              rfl
            · rw [rdN, if_neg hn, if_neg h1, if_neg h2] at hI hco
              conv => whnf
              repeat' (first | (refine brd_t (by first | assumption | omega) ?_; conv => whnf) | (refine brd_f (by first | assumption | omega) ?_; conv => whnf) | (refine ask (by first | assumption | omega) ?_; conv => whnf) | (refine fit64 (by omega) ?_; conv => whnf) | (refine fit (by simp only [kmin, kmax]; omega) ?_; conv => whnf) | (refine br_t (by assumption) ?_; conv => whnf) | (refine br_f (by assumption) ?_; conv => whnf) | (refine get_of (by assumption) ?_; conv => whnf) | (refine get_map (by assumption) ?_; conv => whnf) | (refine brd (fun h => ?_) (fun h => ?_) <;> conv => whnf) | (refine br (fun h => ?_) (fun h => ?_) <;> conv => whnf) | (refine ret_now hE ?_; conv => whnf) | (intro hlen; conv => whnf))
              refine next_drop [0, 5, 12, 13, 14] [1] (k + 1, out) ⟨hlt, by omega, hI⟩ (show ns.length - (k + 1) < ns.length - k by omega) ?_
              conv => whnf
              rw [kill_nodes]
              rfl
    · conv => whnf
      repeat' (first | (refine brd_t (by first | assumption | omega) ?_; conv => whnf) | (refine brd_f (by first | assumption | omega) ?_; conv => whnf) | (refine ask (by first | assumption | omega) ?_; conv => whnf) | (refine fit64 (by omega) ?_; conv => whnf) | (refine fit (by simp only [kmin, kmax]; omega) ?_; conv => whnf) | (refine br_t (by assumption) ?_; conv => whnf) | (refine br_f (by assumption) ?_; conv => whnf) | (refine get_of (by assumption) ?_; conv => whnf) | (refine get_map (by assumption) ?_; conv => whnf) | (refine ret_up (up_frzK 0 4 [] rfl (nodesL_nr _) rfl (by omega) rfl (up_here ?_))) | (refine brd (fun h => ?_) (fun h => ?_) <;> conv => whnf) | (refine br (fun h => ?_) (fun h => ?_) <;> conv => whnf) | (refine ret_now hE ?_; conv => whnf) | (intro hlen; conv => whnf))
      rw [List.drop_eq_nil_of_le (by omega), rdL, List.append_nil] at hI
      exact ⟨rfl, by rw [hI]⟩
set_option maxHeartbeats 8000000 in
theorem rules_apply (l : List Ru) (ns : List Nd) (hN : szL ns ≤ 1048576) : Fn1 Try.prog 13 [rulesV l, .lst (nodesL ns)] (fun r => r = .tup [.lst (nodesL (if rulesCode l = 0 then ofL l ns [] else [])), .int .i64 (rulesCode l)]) := by
  have h1 := rules_check l
  have h2 := of_walk l (szL ns) ns (Nat.le_refl _) hN
  by_cases hz : rulesCode l = 0
  · rw [if_pos hz]
    refine fn1_nl ?_
    refine fn1E (T := Try.tt) Try.func13 rfl tt_all follows_all ?_ ?_ fun C hC hE => ?_
    · kernel_rfl
    · exact Nat.le_of_ble_eq_true (by kernel_rfl)
    conv => whnf
    repeat' (first | (refine brd_t (by first | assumption | omega) ?_; conv => whnf) | (refine brd_f (by first | assumption | omega) ?_; conv => whnf) | (refine ask (by first | assumption | omega) ?_; conv => whnf) | (refine fit64 (by omega) ?_; conv => whnf) | (refine fit (by simp only [kmin, kmax]; omega) ?_; conv => whnf) | (refine br_t (by assumption) ?_; conv => whnf) | (refine br_f (by assumption) ?_; conv => whnf) | (refine get_of (by assumption) ?_; conv => whnf) | (refine get_map (by assumption) ?_; conv => whnf) | (refine call_eq (h1) hC hasBody_31 ?_ ?_ ?_; kernel_rfl; kernel_rfl; conv => whnf) | (refine callq_eq (h1) hC hasBody_31 ?_ ?_ ?_; kernel_rfl; kernel_rfl; conv => whnf) | (refine call_eq (h2) hC hasBody_32 ?_ ?_ ?_; kernel_rfl; kernel_rfl; conv => whnf) | (refine callq_eq (h2) hC hasBody_32 ?_ ?_ ?_; kernel_rfl; kernel_rfl; conv => whnf) | (refine brd (fun h => ?_) (fun h => ?_) <;> conv => whnf) | (refine br (fun h => ?_) (fun h => ?_) <;> conv => whnf) | (refine ret_now hE ?_; conv => whnf) | (intro hlen; conv => whnf))
    exact ⟨rfl, by rw [hz]; simp [V.nl, nlL, nl_nodes]⟩
  · rw [if_neg hz]
    refine fn1_nl ?_
    refine fn1E (T := Try.tt) Try.func13 rfl tt_all follows_all ?_ ?_ fun C hC hE => ?_
    · kernel_rfl
    · exact Nat.le_of_ble_eq_true (by kernel_rfl)
    conv => whnf
    repeat' (first | (refine brd_t (by first | assumption | omega) ?_; conv => whnf) | (refine brd_f (by first | assumption | omega) ?_; conv => whnf) | (refine ask (by first | assumption | omega) ?_; conv => whnf) | (refine fit64 (by omega) ?_; conv => whnf) | (refine fit (by simp only [kmin, kmax]; omega) ?_; conv => whnf) | (refine br_t (by assumption) ?_; conv => whnf) | (refine br_f (by assumption) ?_; conv => whnf) | (refine get_of (by assumption) ?_; conv => whnf) | (refine get_map (by assumption) ?_; conv => whnf) | (refine call_eq (h1) hC hasBody_31 ?_ ?_ ?_; kernel_rfl; kernel_rfl; conv => whnf) | (refine callq_eq (h1) hC hasBody_31 ?_ ?_ ?_; kernel_rfl; kernel_rfl; conv => whnf) | (refine call_eq (h2) hC hasBody_32 ?_ ?_ ?_; kernel_rfl; kernel_rfl; conv => whnf) | (refine callq_eq (h2) hC hasBody_32 ?_ ?_ ?_; kernel_rfl; kernel_rfl; conv => whnf) | (refine brd (fun h => ?_) (fun h => ?_) <;> conv => whnf) | (refine br (fun h => ?_) (fun h => ?_) <;> conv => whnf) | (refine ret_now hE ?_; conv => whnf) | (intro hlen; conv => whnf))
    exact ⟨rfl, by simp [V.nl, nlL, nodesL]⟩
set_option maxHeartbeats 8000000 in
theorem doc_apply (l : List Ru) (ns : List Nd) (hN : szL ns ≤ 1048576) : Fn1 Try.prog 14 [rulesV l, .lst (nodesL ns)] (fun r => r = .tup [.lst (nodesL (if rulesCode l = 0 then ofL l ns [] else [])), .int .i64 (rulesCode l)]) := by
  have h1 := rules_fault l
  by_cases hz : rulesCode l = 0
  · have h2 := doc_ruled l hz (szL ns) ns (Nat.le_refl _) hN
    have h3 := doc_merged (rdL l ns) (Nat.le_trans (cL_rdL l ns) hN)
    rw [if_pos hz, of_mg l (do_to hz)]
    refine fn1_nl ?_
    refine fn1E (T := Try.tt) Try.func14 rfl tt_all follows_all ?_ ?_ fun C hC hE => ?_
    · kernel_rfl
    · exact Nat.le_of_ble_eq_true (by kernel_rfl)
    conv => whnf
    repeat' (first | (refine brd_t (by first | assumption | omega) ?_; conv => whnf) | (refine brd_f (by first | assumption | omega) ?_; conv => whnf) | (refine ask (by first | assumption | omega) ?_; conv => whnf) | (refine fit64 (by omega) ?_; conv => whnf) | (refine fit (by simp only [kmin, kmax]; omega) ?_; conv => whnf) | (refine br_t (by assumption) ?_; conv => whnf) | (refine br_f (by assumption) ?_; conv => whnf) | (refine get_of (by assumption) ?_; conv => whnf) | (refine get_map (by assumption) ?_; conv => whnf) | (refine call_eq (h1) hC hasBody_33 ?_ ?_ ?_; kernel_rfl; kernel_rfl; conv => whnf) | (refine callq_eq (h1) hC hasBody_33 ?_ ?_ ?_; kernel_rfl; kernel_rfl; conv => whnf) | (refine call_eq (h2) hC hasBody_35 ?_ ?_ ?_; kernel_rfl; kernel_rfl; conv => whnf) | (refine callq_eq (h2) hC hasBody_35 ?_ ?_ ?_; kernel_rfl; kernel_rfl; conv => whnf) | (refine call_eq (h3) hC hasBody_34 ?_ ?_ ?_; kernel_rfl; kernel_rfl; conv => whnf) | (refine callq_eq (h3) hC hasBody_34 ?_ ?_ ?_; kernel_rfl; kernel_rfl; conv => whnf) | (refine brd (fun h => ?_) (fun h => ?_) <;> conv => whnf) | (refine br (fun h => ?_) (fun h => ?_) <;> conv => whnf) | (refine ret_now hE ?_; conv => whnf) | (intro hlen; conv => whnf))
    exact ⟨rfl, by rw [hz]; simp [V.nl, nlL, nl_nodes]⟩
  · rw [if_neg hz]
    refine fn1_nl ?_
    refine fn1E (T := Try.tt) Try.func14 rfl tt_all follows_all ?_ ?_ fun C hC hE => ?_
    · kernel_rfl
    · exact Nat.le_of_ble_eq_true (by kernel_rfl)
    conv => whnf
    repeat' (first | (refine brd_t (by first | assumption | omega) ?_; conv => whnf) | (refine brd_f (by first | assumption | omega) ?_; conv => whnf) | (refine ask (by first | assumption | omega) ?_; conv => whnf) | (refine fit64 (by omega) ?_; conv => whnf) | (refine fit (by simp only [kmin, kmax]; omega) ?_; conv => whnf) | (refine br_t (by assumption) ?_; conv => whnf) | (refine br_f (by assumption) ?_; conv => whnf) | (refine get_of (by assumption) ?_; conv => whnf) | (refine get_map (by assumption) ?_; conv => whnf) | (refine call_eq (h1) hC hasBody_33 ?_ ?_ ?_; kernel_rfl; kernel_rfl; conv => whnf) | (refine callq_eq (h1) hC hasBody_33 ?_ ?_ ?_; kernel_rfl; kernel_rfl; conv => whnf) | (refine brd (fun h => ?_) (fun h => ?_) <;> conv => whnf) | (refine br (fun h => ?_) (fun h => ?_) <;> conv => whnf) | (refine ret_now hE ?_; conv => whnf) | (intro hlen; conv => whnf))
    exact ⟨rfl, by simp [V.nl, nlL, nodesL]⟩
set_option maxHeartbeats 8000000 in
theorem rulesApplies_law (l : List Ru) (ns : List Nd) (hN : szL ns ≤ 1048576) : Fn1 Try.prog 5 [rulesV l, .lst (nodesL ns)] (fun r => r = .bool true) := by
  have h1 := rules_apply l ns hN
  have h2 := doc_apply l ns hN
  generalize (if rulesCode l = 0 then ofL l ns [] else []) = X at h1 h2
  have h3 := same_nodes (szL X) X (Nat.le_refl _)
  refine fn1E (T := Try.tt) Try.func5 rfl tt_all follows_all ?_ ?_ fun C hC hE => ?_
  · kernel_rfl
  · exact Nat.le_of_ble_eq_true (by kernel_rfl)
  conv => whnf
  repeat' (first | (refine brd_t (by first | assumption | omega) ?_; conv => whnf) | (refine brd_f (by first | assumption | omega) ?_; conv => whnf) | (refine ask (by first | assumption | omega) ?_; conv => whnf) | (refine fit64 (by omega) ?_; conv => whnf) | (refine fit (by simp only [kmin, kmax]; omega) ?_; conv => whnf) | (refine br_t (by assumption) ?_; conv => whnf) | (refine br_f (by assumption) ?_; conv => whnf) | (refine get_of (by assumption) ?_; conv => whnf) | (refine get_map (by assumption) ?_; conv => whnf) | (refine call_eq (h1) hC hasBody_13 ?_ ?_ ?_; kernel_rfl; kernel_rfl; conv => whnf) | (refine callq_eq (h1) hC hasBody_13 ?_ ?_ ?_; kernel_rfl; kernel_rfl; conv => whnf) | (refine call_eq (h2) hC hasBody_14 ?_ ?_ ?_; kernel_rfl; kernel_rfl; conv => whnf) | (refine callq_eq (h2) hC hasBody_14 ?_ ?_ ?_; kernel_rfl; kernel_rfl; conv => whnf) | (refine call_eq (h3) hC hasBody_10 ?_ ?_ ?_; kernel_rfl; kernel_rfl; conv => whnf) | (refine callq_eq (h3) hC hasBody_10 ?_ ?_ ?_; kernel_rfl; kernel_rfl; conv => whnf) | (refine brd (fun h => ?_) (fun h => ?_) <;> conv => whnf) | (refine br (fun h => ?_) (fun h => ?_) <;> conv => whnf) | (refine ret_now hE ?_; conv => whnf) | (intro hlen; conv => whnf))
  all_goals exact ⟨rfl, rfl⟩
end Go.Proofs.Yteekfmflecgjmaa
