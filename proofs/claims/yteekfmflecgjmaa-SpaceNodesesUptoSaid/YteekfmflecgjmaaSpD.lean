/- The document's spaceNodes, walked; the law SpaceNodeses. No conditions. -/
import Derived.Test.YteekfmflecgjmaaSpM
import Derived.Test.YteekfmflecgjmaaSame
set_option linter.unusedSimpArgs false
set_option linter.unusedVariables false
set_option maxRecDepth 100000
namespace Go.Proofs.Yteekfmflecgjmaa
open Go.RowKit

set_option maxHeartbeats 16000000 in
theorem doc_sp : ∀ (N : Nat) (l : List Nd) (ah : Bool), szL l ≤ N → N ≤ 1048576 → Fn1 Try.prog 30 [.lst (nodesL l), .bool ah] (fun r => r = .tup [.lst (nodesL (spL l [] ah).1), .bool (spL l [] ah).2]) := by
  intro N
  induction N using Nat.strongRecOn with
  | _ N ih =>
    intro l ah0 hps hN
    have hlm := nodesL_length l
    have hll := szL_len l
    refine fn1E (T := Try.tt) Try.func30 rfl tt_all follows_all ?_ ?_ fun C hC hE => ?_
    · kernel_rfl
    · exact Nat.le_of_ble_eq_true (by kernel_rfl)
    conv => whnf
    repeat' (first | (refine brd_t (by first | assumption | omega) ?_; conv => whnf) | (refine brd_f (by first | assumption | omega) ?_; conv => whnf) | (refine ask (by first | assumption | omega) ?_; conv => whnf) | (refine fit64 (by omega) ?_; conv => whnf) | (refine fit (by simp only [kmin, kmax]; omega) ?_; conv => whnf) | (refine br_t (by assumption) ?_; conv => whnf) | (refine br_f (by assumption) ?_; conv => whnf) | (refine get_of (by assumption) ?_; conv => whnf) | (refine get_map (by assumption) ?_; conv => whnf) | (refine brd (fun h => ?_) (fun h => ?_) <;> conv => whnf) | (refine br (fun h => ?_) (fun h => ?_) <;> conv => whnf) | (refine ret_now hE ?_; conv => whnf) | (intro hlen; conv => whnf))
    refine loopE (fun ((k, out, ah) : Nat × List Nd × Bool) => ⟨92, [(1, .bool ah), (6, .sl 0 0 out.length), (12, .lst (nodesL l)), (13, .int .i64 (nodesL l).length), (14, .int .i64 k)], [some (.row 4 (nodesL out))]⟩)
      (fun (k, out, ah) => k ≤ l.length ∧ out.length ≤ k ∧ plainT out ∧ (∀ x ∈ out, x.text.length ≤ szL (l.take k)) ∧ spL (l.drop k) out ah = spL l [] ah0) (fun (k, _, _) => l.length - k) (0, [], ah0) hE ?_ ?_ ⟨Nat.zero_le _, Nat.le_refl _, fun x hx => by simp at hx, fun x hx => by simp at hx, by simp⟩ ?_
    · kernel_rfl
    · exact up_own 6 4 rfl rfl (at_keep [1, 6, 12, 13, 14] rfl)
    rintro ⟨k, out, ah⟩ ⟨hk, hok, hpl, htx, hI⟩
    have hom := nodesL_length out
    by_cases hlt : k < l.length
    · obtain ⟨n, a, t, qs, hx, hx'⟩ := node_at hlt
      have hst := spL_step hx out ah
      have hp2 := szL_mem (List.mem_of_getElem? hx)
      have e1 : szN (.mk n a t qs) = (n.length + 1) + ((a.map szA).sum + 1) + (t.length + 1) + (szL qs + 1) + 1 := by simp only [szN, szS]
      have hal := szA_len a
      have hlq := nodesL_length qs
      have htk : List.take out.length (List.drop 0 (nodesL out)) = nodesL out := by rw [List.drop_zero]; exact List.take_of_length_le (by omega)
      have hbl := one_of n blockL
      have hszk := szL_take hx
      have hszl := szL_take_le l (k + 1)
      have htx1 : ∀ x ∈ out, x.text.length ≤ szL (l.take (k + 1)) := fun x hx => by have := htx x hx; omega
      by_cases hn : n = []
      · have hsx := ref_text t ah
        have hsl := spText_len t ah
        have hsp : spN (.mk n a t qs) out ah = if spText ah t = [] then (out, ah) else (addTx out (spText ah t), endsSp (spText ah t)) := by rw [spN, if_pos hn]
        generalize spText ah t = tx at hsx hsl hsp
        by_cases htx0 : tx = []
        · rw [if_pos htx0] at hsp
          have hgc : True := trivial
          cases ah with
          | false =>
            conv => whnf
            repeat' (first | (refine brd_t (by first | assumption | omega) ?_; conv => whnf) | (refine brd_f (by first | assumption | omega) ?_; conv => whnf) | (refine ask (by first | assumption | omega) ?_; conv => whnf) | (refine fit64 (by omega) ?_; conv => whnf) | (refine fit (by simp only [kmin, kmax]; omega) ?_; conv => whnf) | (refine br_t (by assumption) ?_; conv => whnf) | (refine br_f (by assumption) ?_; conv => whnf) | (refine get_of (by assumption) ?_; conv => whnf) | (refine get_map (by assumption) ?_; conv => whnf) | (refine brd_t rfl ?_; conv => whnf) | (refine get_of hgc ?_; conv => whnf) | (refine call_eq (hsx) hC hasBody_50 ?_ ?_ ?_; kernel_rfl; kernel_rfl; conv => whnf) | (refine callq_eq (hsx) hC hasBody_50 ?_ ?_ ?_; kernel_rfl; kernel_rfl; conv => whnf) | (refine ask (Nat.le_refl 1) ?_; conv => whnf) | (refine ask (by omega) ?_; conv => whnf) | (refine ask ⟨?_, ?_, ?_⟩ ?_; (first | omega | (rw [frzL_length]; omega)); (show _ + 1 ≤ 9223372036854775807; omega); (show (_ + 1) * 80 ≤ 140737488355328; omega); conv => whnf) | (refine brd (fun h => ?_) (fun h => ?_) <;> conv => whnf) | (refine br (fun h => ?_) (fun h => ?_) <;> conv => whnf) | (refine ret_now hE ?_; conv => whnf) | (intro hlen; conv => whnf))
            refine next_drop [1, 6, 12, 13, 14] [1] (k + 1, out, false) ⟨hlt, by omega, hpl, htx1, by rw [← hI, hst, hsp]⟩ (show l.length - (k + 1) < l.length - k by omega) ?_
            conv => whnf
            rw [kill_nodes]
            rfl
          | true =>
            conv => whnf
            repeat' (first | (refine brd_t (by first | assumption | omega) ?_; conv => whnf) | (refine brd_f (by first | assumption | omega) ?_; conv => whnf) | (refine ask (by first | assumption | omega) ?_; conv => whnf) | (refine fit64 (by omega) ?_; conv => whnf) | (refine fit (by simp only [kmin, kmax]; omega) ?_; conv => whnf) | (refine br_t (by assumption) ?_; conv => whnf) | (refine br_f (by assumption) ?_; conv => whnf) | (refine get_of (by assumption) ?_; conv => whnf) | (refine get_map (by assumption) ?_; conv => whnf) | (refine brd_t rfl ?_; conv => whnf) | (refine get_of hgc ?_; conv => whnf) | (refine call_eq (hsx) hC hasBody_50 ?_ ?_ ?_; kernel_rfl; kernel_rfl; conv => whnf) | (refine callq_eq (hsx) hC hasBody_50 ?_ ?_ ?_; kernel_rfl; kernel_rfl; conv => whnf) | (refine ask (Nat.le_refl 1) ?_; conv => whnf) | (refine ask (by omega) ?_; conv => whnf) | (refine ask ⟨?_, ?_, ?_⟩ ?_; (first | omega | (rw [frzL_length]; omega)); (show _ + 1 ≤ 9223372036854775807; omega); (show (_ + 1) * 80 ≤ 140737488355328; omega); conv => whnf) | (refine brd (fun h => ?_) (fun h => ?_) <;> conv => whnf) | (refine br (fun h => ?_) (fun h => ?_) <;> conv => whnf) | (refine ret_now hE ?_; conv => whnf) | (intro hlen; conv => whnf))
            refine next_drop [1, 6, 12, 13, 14] [1] (k + 1, out, true) ⟨hlt, by omega, hpl, htx1, by rw [← hI, hst, hsp]⟩ (show l.length - (k + 1) < l.length - k by omega) ?_
            conv => whnf
            rw [kill_nodes]
            rfl
        · rw [if_neg htx0] at hsp
          obtain ⟨tl, c, htl⟩ : ∃ o c, tx = o ++ [c] := by
            rcases List.eq_nil_or_concat tx with h | ⟨o, c, h⟩
            · exact absurd h htx0
            · exact ⟨o, c, by simpa using h⟩
          have htxl : tx.length = tl.length + 1 := by rw [htl]; simp
          have hgc : tx[((tx.length : Int) - 1).toNat]? = some c := by
            rw [show ((tx.length : Int) - 1).toNat = tl.length by omega, htl]
            simp
          have hec : endsSp tx = decide (c = 32) := by rw [htl]; simp [endsSp]
          rw [hec] at hsp
          have e3 : out.length + (List.take 1 (List.drop 0 [V.agg [.str [], .nils, .str tx, .nils]])).length = (out ++ [Nd.mk [] [] tx []]).length := by simp
          have e4 : killL 2 (killL 1 (nlL (killL 0 (List.take out.length (List.drop 0 (nodesL out)) ++ List.take 1 (List.drop 0 [V.agg [.str [], .nils, .str tx, .nils]]))))) = nodesL (out ++ [.mk [] [] tx []]) := by
            rw [htk, kill_nrL _ ((nrL_append _ _).2 ⟨nodesL_nr _, nrB_nrL (List.take 1 (List.drop 0 [V.agg [.str [], .nils, .str tx, .nils]])) rfl⟩), nlL_append, nl_nodes]
            have : nlL (List.take 1 (List.drop 0 [V.agg [.str [], .nils, .str tx, .nils]])) = nodesL [.mk [] [] tx []] := by simp [nlL, V.nl, nodesL, nodeA_mk]
            rw [this, ← nodesL_append, kill_nodes, kill_nodes]
          have htx3 : ∀ x ∈ out ++ [Nd.mk [] [] tx []], x.text.length ≤ szL (l.take (k + 1)) := fun x hx => by
            rcases List.mem_append.1 hx with hx | hx
            · exact htx1 x hx
            · simp at hx
              subst hx
              show tx.length ≤ _
              omega
          by_cases hc : c = 32
          · rw [decide_eq_true hc] at hsp
            have hcn : (c.toNat : Int) = 32 := by rw [hc]; rfl
            rcases last_cases out with ho | ⟨o, x, ho⟩
            · have hz : out.length = 0 := by rw [ho]; rfl
              have hadd : addTx out tx = out ++ [.mk [] [] tx []] := by rw [ho]; rfl
              cases ah
              all_goals (
                conv => whnf
                repeat' (first | (refine brd_t (by first | assumption | omega) ?_; conv => whnf) | (refine brd_f (by first | assumption | omega) ?_; conv => whnf) | (refine ask (by first | assumption | omega) ?_; conv => whnf) | (refine fit64 (by omega) ?_; conv => whnf) | (refine fit (by simp only [kmin, kmax]; omega) ?_; conv => whnf) | (refine br_t (by assumption) ?_; conv => whnf) | (refine br_f (by assumption) ?_; conv => whnf) | (refine get_of (by assumption) ?_; conv => whnf) | (refine get_map (by assumption) ?_; conv => whnf) | (refine brd_t rfl ?_; conv => whnf) | (refine get_of hgc ?_; conv => whnf) | (refine call_eq (hsx) hC hasBody_50 ?_ ?_ ?_; kernel_rfl; kernel_rfl; conv => whnf) | (refine callq_eq (hsx) hC hasBody_50 ?_ ?_ ?_; kernel_rfl; kernel_rfl; conv => whnf) | (refine ask (Nat.le_refl 1) ?_; conv => whnf) | (refine ask (by omega) ?_; conv => whnf) | (refine ask ⟨?_, ?_, ?_⟩ ?_; (first | omega | (rw [frzL_length]; omega)); (show _ + 1 ≤ 9223372036854775807; omega); (show (_ + 1) * 80 ≤ 140737488355328; omega); conv => whnf) | (refine brd (fun h => ?_) (fun h => ?_) <;> conv => whnf) | (refine br (fun h => ?_) (fun h => ?_) <;> conv => whnf) | (refine ret_now hE ?_; conv => whnf) | (intro hlen; conv => whnf))
                refine up_nl 0 rfl (next_drop [1, 6, 12, 13, 14] [1, 2] (k + 1, out ++ [.mk [] [] tx []], true) ⟨hlt, by rw [List.length_append]; simp only [List.length_cons, List.length_nil]; omega, plain_add hpl (.mk [] [] tx []) (fun _ => ⟨tx, rfl⟩), htx3, by rw [← hI, hst, hsp, hadd]⟩ (show l.length - (k + 1) < l.length - k by omega) ?_)
                conv => whnf
                rw [e3, e4]
                rfl)
            · obtain ⟨n', a', t', ps'⟩ := x
              have hol : out.length = o.length + 1 := by rw [ho]; simp
              by_cases hn' : n' = []
              · have hmem : Nd.mk n' a' t' ps' ∈ out := by rw [ho]; simp
                obtain ⟨t'', et⟩ := hpl _ hmem hn'
                have htl' := htx _ hmem
                change t'.length ≤ _ at htl'
                cases et
                have hpl2 : plainT (o ++ [.mk [] [] t' []]) := ho ▸ hpl
                have hlast : (nodesL out)[0 + ((out.length : Int) - 1).toNat]? = some (.agg [.str [], .lst [], .str t', .lst []]) := by
                  rw [Nat.zero_add, show ((out.length : Int) - 1).toNat = o.length by omega, ho, nodesL_append, List.getElem?_append_right (by rw [nodesL_length]; exact Nat.le_refl _), nodesL_length]
                  simp [nodesL, nodeA_mk]
                have htx4 : ∀ x ∈ o ++ [Nd.mk [] [] (t' ++ tx) []], x.text.length ≤ szL (l.take (k + 1)) := fun x hx => by
                  rcases List.mem_append.1 hx with hx | hx
                  · exact htx1 x (by rw [ho]; exact List.mem_append.2 (.inl hx))
                  · simp at hx
                    subst hx
                    show (t' ++ tx).length ≤ _
                    rw [List.length_append]
                    omega
                have e7 : killL 2 (killL 1 (nlL (killL 0 (List.take ((out.length : Int) - 1).toNat (List.drop 0 (nodesL out)) ++ List.take 1 (List.drop 0 [V.agg [.str [], .nils, .str (t' ++ tx), .nils]]))))) = nodesL (o ++ [.mk [] [] (t' ++ tx) []]) := by
                  have h1 : List.take ((out.length : Int) - 1).toNat (List.drop 0 (nodesL out)) = nodesL o := by
                    rw [List.drop_zero, show ((out.length : Int) - 1).toNat = o.length by omega, ho, nodesL_append, List.take_append_of_le_length (by rw [nodesL_length]; exact Nat.le_refl _), List.take_of_length_le (by rw [nodesL_length]; exact Nat.le_refl _)]
                  rw [h1, kill_nrL _ ((nrL_append _ _).2 ⟨nodesL_nr _, nrB_nrL (List.take 1 (List.drop 0 [V.agg [.str [], .nils, .str (t' ++ tx), .nils]])) rfl⟩), nlL_append, nl_nodes]
                  have : nlL (List.take 1 (List.drop 0 [V.agg [.str [], .nils, .str (t' ++ tx), .nils]])) = nodesL [.mk [] [] (t' ++ tx) []] := by simp [nlL, V.nl, nodesL, nodeA_mk]
                  rw [this, ← nodesL_append, kill_nodes, kill_nodes]
                have e8 : ((out.length : Int) - 1).toNat + (List.take 1 (List.drop 0 [V.agg [.str [], .nils, .str (t' ++ tx), .nils]])).length = (o ++ [Nd.mk [] [] (t' ++ tx) []]).length := by
                  rw [show ((out.length : Int) - 1).toNat = o.length by omega]
                  simp
                cases ah
                all_goals (
                  conv => whnf
                  repeat' (first | (refine brd_t (by first | assumption | omega) ?_; conv => whnf) | (refine brd_f (by first | assumption | omega) ?_; conv => whnf) | (refine ask (by first | assumption | omega) ?_; conv => whnf) | (refine fit64 (by omega) ?_; conv => whnf) | (refine fit (by simp only [kmin, kmax]; omega) ?_; conv => whnf) | (refine br_t (by assumption) ?_; conv => whnf) | (refine br_f (by assumption) ?_; conv => whnf) | (refine get_of (by assumption) ?_; conv => whnf) | (refine get_map (by assumption) ?_; conv => whnf) | (refine brd_t rfl ?_; conv => whnf) | (refine get_of hlast ?_; conv => whnf) | (refine get_of hgc ?_; conv => whnf) | (refine call_eq (hsx) hC hasBody_50 ?_ ?_ ?_; kernel_rfl; kernel_rfl; conv => whnf) | (refine callq_eq (hsx) hC hasBody_50 ?_ ?_ ?_; kernel_rfl; kernel_rfl; conv => whnf) | (refine ask (Nat.le_refl 1) ?_; conv => whnf) | (refine ask (by omega) ?_; conv => whnf) | (refine ask ⟨?_, ?_, ?_⟩ ?_; (first | omega | (rw [frzL_length]; omega)); (show _ + 1 ≤ 9223372036854775807; omega); (show (_ + 1) * 80 ≤ 140737488355328; omega); conv => whnf) | (refine brd (fun h => ?_) (fun h => ?_) <;> conv => whnf) | (refine br (fun h => ?_) (fun h => ?_) <;> conv => whnf) | (refine ret_now hE ?_; conv => whnf) | (intro hlen; conv => whnf))
                  refine up_nl 0 rfl (next_drop [1, 6, 12, 13, 14] [1, 2] (k + 1, o ++ [.mk [] [] (t' ++ tx) []], true) ⟨hlt, by rw [List.length_append]; simp only [List.length_cons, List.length_nil]; omega, plain_add (plain_left hpl2) (.mk [] [] (t' ++ tx) []) (fun _ => ⟨_, rfl⟩), htx4, by rw [← hI, hst, hsp, ho, addTx_text]⟩ (show l.length - (k + 1) < l.length - k by omega) ?_)
                  conv => whnf
                  rw [e8, e7]
                  rfl)
              · have hlast : (nodesL out)[0 + ((out.length : Int) - 1).toNat]? = some (.agg [.str n', .lst (a'.map attA), .str t', .lst (nodesL ps')]) := by
                  rw [Nat.zero_add, show ((out.length : Int) - 1).toNat = o.length by omega, ho, nodesL_append, List.getElem?_append_right (by rw [nodesL_length]; exact Nat.le_refl _), nodesL_length]
                  simp [nodesL, nodeA_mk]
                have hadd : addTx out tx = out ++ [.mk [] [] tx []] := by rw [ho, addTx_elem hn']
                cases ah
                all_goals (
                  conv => whnf
                  repeat' (first | (refine brd_t (by first | assumption | omega) ?_; conv => whnf) | (refine brd_f (by first | assumption | omega) ?_; conv => whnf) | (refine ask (by first | assumption | omega) ?_; conv => whnf) | (refine fit64 (by omega) ?_; conv => whnf) | (refine fit (by simp only [kmin, kmax]; omega) ?_; conv => whnf) | (refine br_t (by assumption) ?_; conv => whnf) | (refine br_f (by assumption) ?_; conv => whnf) | (refine get_of (by assumption) ?_; conv => whnf) | (refine get_map (by assumption) ?_; conv => whnf) | (refine brd_t rfl ?_; conv => whnf) | (refine get_of hlast ?_; conv => whnf) | (refine get_of hgc ?_; conv => whnf) | (refine call_eq (hsx) hC hasBody_50 ?_ ?_ ?_; kernel_rfl; kernel_rfl; conv => whnf) | (refine callq_eq (hsx) hC hasBody_50 ?_ ?_ ?_; kernel_rfl; kernel_rfl; conv => whnf) | (refine ask (Nat.le_refl 1) ?_; conv => whnf) | (refine ask (by omega) ?_; conv => whnf) | (refine ask ⟨?_, ?_, ?_⟩ ?_; (first | omega | (rw [frzL_length]; omega)); (show _ + 1 ≤ 9223372036854775807; omega); (show (_ + 1) * 80 ≤ 140737488355328; omega); conv => whnf) | (refine brd (fun h => ?_) (fun h => ?_) <;> conv => whnf) | (refine br (fun h => ?_) (fun h => ?_) <;> conv => whnf) | (refine ret_now hE ?_; conv => whnf) | (intro hlen; conv => whnf))
                  refine up_nl 0 rfl (next_drop [1, 6, 12, 13, 14] [1, 2] (k + 1, out ++ [.mk [] [] tx []], true) ⟨hlt, by rw [List.length_append]; simp only [List.length_cons, List.length_nil]; omega, plain_add hpl (.mk [] [] tx []) (fun _ => ⟨tx, rfl⟩), htx3, by rw [← hI, hst, hsp, hadd]⟩ (show l.length - (k + 1) < l.length - k by omega) ?_)
                  conv => whnf
                  rw [e3, e4]
                  rfl)
          · rw [decide_eq_false hc] at hsp
            have hcn : ¬ (c.toNat : Int) = 32 := fun e => hc (UInt8.toNat.inj (by show c.toNat = 32; omega))
            rcases last_cases out with ho | ⟨o, x, ho⟩
            · have hz : out.length = 0 := by rw [ho]; rfl
              have hadd : addTx out tx = out ++ [.mk [] [] tx []] := by rw [ho]; rfl
              cases ah
              all_goals (
                conv => whnf
                repeat' (first | (refine brd_t (by first | assumption | omega) ?_; conv => whnf) | (refine brd_f (by first | assumption | omega) ?_; conv => whnf) | (refine ask (by first | assumption | omega) ?_; conv => whnf) | (refine fit64 (by omega) ?_; conv => whnf) | (refine fit (by simp only [kmin, kmax]; omega) ?_; conv => whnf) | (refine br_t (by assumption) ?_; conv => whnf) | (refine br_f (by assumption) ?_; conv => whnf) | (refine get_of (by assumption) ?_; conv => whnf) | (refine get_map (by assumption) ?_; conv => whnf) | (refine brd_t rfl ?_; conv => whnf) | (refine get_of hgc ?_; conv => whnf) | (refine call_eq (hsx) hC hasBody_50 ?_ ?_ ?_; kernel_rfl; kernel_rfl; conv => whnf) | (refine callq_eq (hsx) hC hasBody_50 ?_ ?_ ?_; kernel_rfl; kernel_rfl; conv => whnf) | (refine ask (Nat.le_refl 1) ?_; conv => whnf) | (refine ask (by omega) ?_; conv => whnf) | (refine ask ⟨?_, ?_, ?_⟩ ?_; (first | omega | (rw [frzL_length]; omega)); (show _ + 1 ≤ 9223372036854775807; omega); (show (_ + 1) * 80 ≤ 140737488355328; omega); conv => whnf) | (refine brd (fun h => ?_) (fun h => ?_) <;> conv => whnf) | (refine br (fun h => ?_) (fun h => ?_) <;> conv => whnf) | (refine ret_now hE ?_; conv => whnf) | (intro hlen; conv => whnf))
                refine up_nl 0 rfl (next_drop [1, 6, 12, 13, 14] [1, 2] (k + 1, out ++ [.mk [] [] tx []], false) ⟨hlt, by rw [List.length_append]; simp only [List.length_cons, List.length_nil]; omega, plain_add hpl (.mk [] [] tx []) (fun _ => ⟨tx, rfl⟩), htx3, by rw [← hI, hst, hsp, hadd]⟩ (show l.length - (k + 1) < l.length - k by omega) ?_)
                conv => whnf
                rw [e3, e4]
                rfl)
            · obtain ⟨n', a', t', ps'⟩ := x
              have hol : out.length = o.length + 1 := by rw [ho]; simp
              by_cases hn' : n' = []
              · have hmem : Nd.mk n' a' t' ps' ∈ out := by rw [ho]; simp
                obtain ⟨t'', et⟩ := hpl _ hmem hn'
                have htl' := htx _ hmem
                change t'.length ≤ _ at htl'
                cases et
                have hpl2 : plainT (o ++ [.mk [] [] t' []]) := ho ▸ hpl
                have hlast : (nodesL out)[0 + ((out.length : Int) - 1).toNat]? = some (.agg [.str [], .lst [], .str t', .lst []]) := by
                  rw [Nat.zero_add, show ((out.length : Int) - 1).toNat = o.length by omega, ho, nodesL_append, List.getElem?_append_right (by rw [nodesL_length]; exact Nat.le_refl _), nodesL_length]
                  simp [nodesL, nodeA_mk]
                have htx4 : ∀ x ∈ o ++ [Nd.mk [] [] (t' ++ tx) []], x.text.length ≤ szL (l.take (k + 1)) := fun x hx => by
                  rcases List.mem_append.1 hx with hx | hx
                  · exact htx1 x (by rw [ho]; exact List.mem_append.2 (.inl hx))
                  · simp at hx
                    subst hx
                    show (t' ++ tx).length ≤ _
                    rw [List.length_append]
                    omega
                have e7 : killL 2 (killL 1 (nlL (killL 0 (List.take ((out.length : Int) - 1).toNat (List.drop 0 (nodesL out)) ++ List.take 1 (List.drop 0 [V.agg [.str [], .nils, .str (t' ++ tx), .nils]]))))) = nodesL (o ++ [.mk [] [] (t' ++ tx) []]) := by
                  have h1 : List.take ((out.length : Int) - 1).toNat (List.drop 0 (nodesL out)) = nodesL o := by
                    rw [List.drop_zero, show ((out.length : Int) - 1).toNat = o.length by omega, ho, nodesL_append, List.take_append_of_le_length (by rw [nodesL_length]; exact Nat.le_refl _), List.take_of_length_le (by rw [nodesL_length]; exact Nat.le_refl _)]
                  rw [h1, kill_nrL _ ((nrL_append _ _).2 ⟨nodesL_nr _, nrB_nrL (List.take 1 (List.drop 0 [V.agg [.str [], .nils, .str (t' ++ tx), .nils]])) rfl⟩), nlL_append, nl_nodes]
                  have : nlL (List.take 1 (List.drop 0 [V.agg [.str [], .nils, .str (t' ++ tx), .nils]])) = nodesL [.mk [] [] (t' ++ tx) []] := by simp [nlL, V.nl, nodesL, nodeA_mk]
                  rw [this, ← nodesL_append, kill_nodes, kill_nodes]
                have e8 : ((out.length : Int) - 1).toNat + (List.take 1 (List.drop 0 [V.agg [.str [], .nils, .str (t' ++ tx), .nils]])).length = (o ++ [Nd.mk [] [] (t' ++ tx) []]).length := by
                  rw [show ((out.length : Int) - 1).toNat = o.length by omega]
                  simp
                cases ah
                all_goals (
                  conv => whnf
                  repeat' (first | (refine brd_t (by first | assumption | omega) ?_; conv => whnf) | (refine brd_f (by first | assumption | omega) ?_; conv => whnf) | (refine ask (by first | assumption | omega) ?_; conv => whnf) | (refine fit64 (by omega) ?_; conv => whnf) | (refine fit (by simp only [kmin, kmax]; omega) ?_; conv => whnf) | (refine br_t (by assumption) ?_; conv => whnf) | (refine br_f (by assumption) ?_; conv => whnf) | (refine get_of (by assumption) ?_; conv => whnf) | (refine get_map (by assumption) ?_; conv => whnf) | (refine brd_t rfl ?_; conv => whnf) | (refine get_of hlast ?_; conv => whnf) | (refine get_of hgc ?_; conv => whnf) | (refine call_eq (hsx) hC hasBody_50 ?_ ?_ ?_; kernel_rfl; kernel_rfl; conv => whnf) | (refine callq_eq (hsx) hC hasBody_50 ?_ ?_ ?_; kernel_rfl; kernel_rfl; conv => whnf) | (refine ask (Nat.le_refl 1) ?_; conv => whnf) | (refine ask (by omega) ?_; conv => whnf) | (refine ask ⟨?_, ?_, ?_⟩ ?_; (first | omega | (rw [frzL_length]; omega)); (show _ + 1 ≤ 9223372036854775807; omega); (show (_ + 1) * 80 ≤ 140737488355328; omega); conv => whnf) | (refine brd (fun h => ?_) (fun h => ?_) <;> conv => whnf) | (refine br (fun h => ?_) (fun h => ?_) <;> conv => whnf) | (refine ret_now hE ?_; conv => whnf) | (intro hlen; conv => whnf))
                  refine up_nl 0 rfl (next_drop [1, 6, 12, 13, 14] [1, 2] (k + 1, o ++ [.mk [] [] (t' ++ tx) []], false) ⟨hlt, by rw [List.length_append]; simp only [List.length_cons, List.length_nil]; omega, plain_add (plain_left hpl2) (.mk [] [] (t' ++ tx) []) (fun _ => ⟨_, rfl⟩), htx4, by rw [← hI, hst, hsp, ho, addTx_text]⟩ (show l.length - (k + 1) < l.length - k by omega) ?_)
                  conv => whnf
                  rw [e8, e7]
                  rfl)
              · have hlast : (nodesL out)[0 + ((out.length : Int) - 1).toNat]? = some (.agg [.str n', .lst (a'.map attA), .str t', .lst (nodesL ps')]) := by
                  rw [Nat.zero_add, show ((out.length : Int) - 1).toNat = o.length by omega, ho, nodesL_append, List.getElem?_append_right (by rw [nodesL_length]; exact Nat.le_refl _), nodesL_length]
                  simp [nodesL, nodeA_mk]
                have hadd : addTx out tx = out ++ [.mk [] [] tx []] := by rw [ho, addTx_elem hn']
                cases ah
                all_goals (
                  conv => whnf
                  repeat' (first | (refine brd_t (by first | assumption | omega) ?_; conv => whnf) | (refine brd_f (by first | assumption | omega) ?_; conv => whnf) | (refine ask (by first | assumption | omega) ?_; conv => whnf) | (refine fit64 (by omega) ?_; conv => whnf) | (refine fit (by simp only [kmin, kmax]; omega) ?_; conv => whnf) | (refine br_t (by assumption) ?_; conv => whnf) | (refine br_f (by assumption) ?_; conv => whnf) | (refine get_of (by assumption) ?_; conv => whnf) | (refine get_map (by assumption) ?_; conv => whnf) | (refine brd_t rfl ?_; conv => whnf) | (refine get_of hlast ?_; conv => whnf) | (refine get_of hgc ?_; conv => whnf) | (refine call_eq (hsx) hC hasBody_50 ?_ ?_ ?_; kernel_rfl; kernel_rfl; conv => whnf) | (refine callq_eq (hsx) hC hasBody_50 ?_ ?_ ?_; kernel_rfl; kernel_rfl; conv => whnf) | (refine ask (Nat.le_refl 1) ?_; conv => whnf) | (refine ask (by omega) ?_; conv => whnf) | (refine ask ⟨?_, ?_, ?_⟩ ?_; (first | omega | (rw [frzL_length]; omega)); (show _ + 1 ≤ 9223372036854775807; omega); (show (_ + 1) * 80 ≤ 140737488355328; omega); conv => whnf) | (refine brd (fun h => ?_) (fun h => ?_) <;> conv => whnf) | (refine br (fun h => ?_) (fun h => ?_) <;> conv => whnf) | (refine ret_now hE ?_; conv => whnf) | (intro hlen; conv => whnf))
                  refine up_nl 0 rfl (next_drop [1, 6, 12, 13, 14] [1, 2] (k + 1, out ++ [.mk [] [] tx []], false) ⟨hlt, by rw [List.length_append]; simp only [List.length_cons, List.length_nil]; omega, plain_add hpl (.mk [] [] tx []) (fun _ => ⟨tx, rfl⟩), htx3, by rw [← hI, hst, hsp, hadd]⟩ (show l.length - (k + 1) < l.length - k by omega) ?_)
                  conv => whnf
                  rw [e3, e4]
                  rfl)
      · have htx2 : ∀ ps', ∀ x ∈ out ++ [Nd.mk n a t ps'], x.text.length ≤ szL (l.take (k + 1)) := fun ps' x hx => by
          rcases List.mem_append.1 hx with hx | hx
          · exact htx1 x hx
          · simp at hx
            subst hx
            show t.length ≤ _
            omega
        have hfz : frzL 2 (blockL.map V.str) (nodesL out) = nodesL out := frz_nrL _ _ (nodesL_nr _)
        have e4 : ∀ ps', killL 3 (killL 2 (killL 1 (killL 0 (List.take out.length (List.drop 0 (frzL 2 (blockL.map V.str) (nodesL out))) ++ List.take 1 (List.drop 0 [V.agg [.str n, .lst (a.map attA), .str t, .lst (nodesL ps')]]))))) = nodesL (out ++ [.mk n a t ps']) := fun ps' => by
          have : List.take out.length (List.drop 0 (nodesL out)) ++ List.take 1 (List.drop 0 [V.agg [.str n, .lst (a.map attA), .str t, .lst (nodesL ps')]]) = nodesL (out ++ [.mk n a t ps']) := by
            rw [htk, nodesL_append]
            simp [nodesL, nodeA_mk]
          rw [hfz, this, kill_nodes, kill_nodes, kill_nodes, kill_nodes]
        have e3 : ∀ ps', out.length + (List.take 1 (List.drop 0 [V.agg [.str n, .lst (a.map attA), .str t, .lst (nodesL ps')]])).length = (out ++ [Nd.mk n a t ps']).length := fun ps' => by simp
        cases hbk : decide (n ∈ blockL) with
        | true =>
          rw [hbk] at hbl
          cases ah with
          | true =>
            have ihq := ih (szL qs) (by omega) qs true (Nat.le_refl _) (by omega)
            generalize hr : spL qs [] true = res at ihq
            obtain ⟨ps', ah2⟩ := res
            simp only at ihq
            have e4 := e4 ps'
            have e3 := e3 ps'
            cases ah2 with
            | true =>
              conv => whnf
              repeat' (first | (refine brd_t (by first | assumption | omega) ?_; conv => whnf) | (refine brd_f (by first | assumption | omega) ?_; conv => whnf) | (refine ask (by first | assumption | omega) ?_; conv => whnf) | (refine fit64 (by omega) ?_; conv => whnf) | (refine fit (by simp only [kmin, kmax]; omega) ?_; conv => whnf) | (refine br_t (by assumption) ?_; conv => whnf) | (refine br_f (by assumption) ?_; conv => whnf) | (refine get_of (by assumption) ?_; conv => whnf) | (refine get_map (by assumption) ?_; conv => whnf) | (refine call_up (up_freeze 2 (z := 1) (els := blockL.map V.str) rfl (nrB_nrL _ rfl) (up_here ?_)); conv => whnf) | (refine call_eq (hbl) hC hasBody_51 ?_ ?_ ?_; kernel_rfl; kernel_rfl; conv => whnf) | (refine callq_eq (hbl) hC hasBody_51 ?_ ?_ ?_; kernel_rfl; kernel_rfl; conv => whnf) | (refine call_eq (ihq) hC hasBody_30 ?_ ?_ ?_; kernel_rfl; kernel_rfl; conv => whnf) | (refine callq_eq (ihq) hC hasBody_30 ?_ ?_ ?_; kernel_rfl; kernel_rfl; conv => whnf) | (refine ask (Nat.le_refl 1) ?_; conv => whnf) | (refine ask (by omega) ?_; conv => whnf) | (refine ask ⟨?_, ?_, ?_⟩ ?_; (first | omega | (rw [frzL_length]; omega)); (show _ + 1 ≤ 9223372036854775807; omega); (show (_ + 1) * 80 ≤ 140737488355328; omega); conv => whnf) | (refine brd (fun h => ?_) (fun h => ?_) <;> conv => whnf) | (refine br (fun h => ?_) (fun h => ?_) <;> conv => whnf) | (refine ret_now hE ?_; conv => whnf) | (intro hlen; conv => whnf))
              refine next_drop [1, 6, 12, 13, 14] [1, 2, 3] (k + 1, out ++ [.mk n a t ps'], true) ⟨hlt, by rw [List.length_append]; simp only [List.length_cons, List.length_nil]; omega, plain_add hpl (.mk n a t ps') (fun h => absurd h hn), htx2 ps', ?_⟩ (show l.length - (k + 1) < l.length - k by omega) ?_
              · rw [← hI, hst, spN, if_neg hn, hbk]
                simp only [Bool.or_true, Bool.or_false]
                rw [hr]
              · conv => whnf
                rw [e4, e3]
                rfl
            | false =>
              conv => whnf
              repeat' (first | (refine brd_t (by first | assumption | omega) ?_; conv => whnf) | (refine brd_f (by first | assumption | omega) ?_; conv => whnf) | (refine ask (by first | assumption | omega) ?_; conv => whnf) | (refine fit64 (by omega) ?_; conv => whnf) | (refine fit (by simp only [kmin, kmax]; omega) ?_; conv => whnf) | (refine br_t (by assumption) ?_; conv => whnf) | (refine br_f (by assumption) ?_; conv => whnf) | (refine get_of (by assumption) ?_; conv => whnf) | (refine get_map (by assumption) ?_; conv => whnf) | (refine call_up (up_freeze 2 (z := 1) (els := blockL.map V.str) rfl (nrB_nrL _ rfl) (up_here ?_)); conv => whnf) | (refine call_eq (hbl) hC hasBody_51 ?_ ?_ ?_; kernel_rfl; kernel_rfl; conv => whnf) | (refine callq_eq (hbl) hC hasBody_51 ?_ ?_ ?_; kernel_rfl; kernel_rfl; conv => whnf) | (refine call_eq (ihq) hC hasBody_30 ?_ ?_ ?_; kernel_rfl; kernel_rfl; conv => whnf) | (refine callq_eq (ihq) hC hasBody_30 ?_ ?_ ?_; kernel_rfl; kernel_rfl; conv => whnf) | (refine ask (Nat.le_refl 1) ?_; conv => whnf) | (refine ask (by omega) ?_; conv => whnf) | (refine ask ⟨?_, ?_, ?_⟩ ?_; (first | omega | (rw [frzL_length]; omega)); (show _ + 1 ≤ 9223372036854775807; omega); (show (_ + 1) * 80 ≤ 140737488355328; omega); conv => whnf) | (refine brd (fun h => ?_) (fun h => ?_) <;> conv => whnf) | (refine br (fun h => ?_) (fun h => ?_) <;> conv => whnf) | (refine ret_now hE ?_; conv => whnf) | (intro hlen; conv => whnf))
              refine next_drop [1, 6, 12, 13, 14] [1, 2, 3] (k + 1, out ++ [.mk n a t ps'], true) ⟨hlt, by rw [List.length_append]; simp only [List.length_cons, List.length_nil]; omega, plain_add hpl (.mk n a t ps') (fun h => absurd h hn), htx2 ps', ?_⟩ (show l.length - (k + 1) < l.length - k by omega) ?_
              · rw [← hI, hst, spN, if_neg hn, hbk]
                simp only [Bool.or_true, Bool.or_false]
                rw [hr]
              · conv => whnf
                rw [e4, e3]
                rfl
          | false =>
            have ihq := ih (szL qs) (by omega) qs true (Nat.le_refl _) (by omega)
            generalize hr : spL qs [] true = res at ihq
            obtain ⟨ps', ah2⟩ := res
            simp only at ihq
            have e4 := e4 ps'
            have e3 := e3 ps'
            cases ah2 with
            | true =>
              conv => whnf
              repeat' (first | (refine brd_t (by first | assumption | omega) ?_; conv => whnf) | (refine brd_f (by first | assumption | omega) ?_; conv => whnf) | (refine ask (by first | assumption | omega) ?_; conv => whnf) | (refine fit64 (by omega) ?_; conv => whnf) | (refine fit (by simp only [kmin, kmax]; omega) ?_; conv => whnf) | (refine br_t (by assumption) ?_; conv => whnf) | (refine br_f (by assumption) ?_; conv => whnf) | (refine get_of (by assumption) ?_; conv => whnf) | (refine get_map (by assumption) ?_; conv => whnf) | (refine call_up (up_freeze 2 (z := 1) (els := blockL.map V.str) rfl (nrB_nrL _ rfl) (up_here ?_)); conv => whnf) | (refine call_eq (hbl) hC hasBody_51 ?_ ?_ ?_; kernel_rfl; kernel_rfl; conv => whnf) | (refine callq_eq (hbl) hC hasBody_51 ?_ ?_ ?_; kernel_rfl; kernel_rfl; conv => whnf) | (refine call_eq (ihq) hC hasBody_30 ?_ ?_ ?_; kernel_rfl; kernel_rfl; conv => whnf) | (refine callq_eq (ihq) hC hasBody_30 ?_ ?_ ?_; kernel_rfl; kernel_rfl; conv => whnf) | (refine ask (Nat.le_refl 1) ?_; conv => whnf) | (refine ask (by omega) ?_; conv => whnf) | (refine ask ⟨?_, ?_, ?_⟩ ?_; (first | omega | (rw [frzL_length]; omega)); (show _ + 1 ≤ 9223372036854775807; omega); (show (_ + 1) * 80 ≤ 140737488355328; omega); conv => whnf) | (refine brd (fun h => ?_) (fun h => ?_) <;> conv => whnf) | (refine br (fun h => ?_) (fun h => ?_) <;> conv => whnf) | (refine ret_now hE ?_; conv => whnf) | (intro hlen; conv => whnf))
              refine next_drop [1, 6, 12, 13, 14] [1, 2, 3] (k + 1, out ++ [.mk n a t ps'], true) ⟨hlt, by rw [List.length_append]; simp only [List.length_cons, List.length_nil]; omega, plain_add hpl (.mk n a t ps') (fun h => absurd h hn), htx2 ps', ?_⟩ (show l.length - (k + 1) < l.length - k by omega) ?_
              · rw [← hI, hst, spN, if_neg hn, hbk]
                simp only [Bool.or_true, Bool.or_false]
                rw [hr]
              · conv => whnf
                rw [e4, e3]
                rfl
            | false =>
              conv => whnf
              repeat' (first | (refine brd_t (by first | assumption | omega) ?_; conv => whnf) | (refine brd_f (by first | assumption | omega) ?_; conv => whnf) | (refine ask (by first | assumption | omega) ?_; conv => whnf) | (refine fit64 (by omega) ?_; conv => whnf) | (refine fit (by simp only [kmin, kmax]; omega) ?_; conv => whnf) | (refine br_t (by assumption) ?_; conv => whnf) | (refine br_f (by assumption) ?_; conv => whnf) | (refine get_of (by assumption) ?_; conv => whnf) | (refine get_map (by assumption) ?_; conv => whnf) | (refine call_up (up_freeze 2 (z := 1) (els := blockL.map V.str) rfl (nrB_nrL _ rfl) (up_here ?_)); conv => whnf) | (refine call_eq (hbl) hC hasBody_51 ?_ ?_ ?_; kernel_rfl; kernel_rfl; conv => whnf) | (refine callq_eq (hbl) hC hasBody_51 ?_ ?_ ?_; kernel_rfl; kernel_rfl; conv => whnf) | (refine call_eq (ihq) hC hasBody_30 ?_ ?_ ?_; kernel_rfl; kernel_rfl; conv => whnf) | (refine callq_eq (ihq) hC hasBody_30 ?_ ?_ ?_; kernel_rfl; kernel_rfl; conv => whnf) | (refine ask (Nat.le_refl 1) ?_; conv => whnf) | (refine ask (by omega) ?_; conv => whnf) | (refine ask ⟨?_, ?_, ?_⟩ ?_; (first | omega | (rw [frzL_length]; omega)); (show _ + 1 ≤ 9223372036854775807; omega); (show (_ + 1) * 80 ≤ 140737488355328; omega); conv => whnf) | (refine brd (fun h => ?_) (fun h => ?_) <;> conv => whnf) | (refine br (fun h => ?_) (fun h => ?_) <;> conv => whnf) | (refine ret_now hE ?_; conv => whnf) | (intro hlen; conv => whnf))
              refine next_drop [1, 6, 12, 13, 14] [1, 2, 3] (k + 1, out ++ [.mk n a t ps'], true) ⟨hlt, by rw [List.length_append]; simp only [List.length_cons, List.length_nil]; omega, plain_add hpl (.mk n a t ps') (fun h => absurd h hn), htx2 ps', ?_⟩ (show l.length - (k + 1) < l.length - k by omega) ?_
              · rw [← hI, hst, spN, if_neg hn, hbk]
                simp only [Bool.or_true, Bool.or_false]
                rw [hr]
              · conv => whnf
                rw [e4, e3]
                rfl
        | false =>
          rw [hbk] at hbl
          cases ah with
          | true =>
            have ihq := ih (szL qs) (by omega) qs true (Nat.le_refl _) (by omega)
            generalize hr : spL qs [] true = res at ihq
            obtain ⟨ps', ah2⟩ := res
            simp only at ihq
            have e4 := e4 ps'
            have e3 := e3 ps'
            cases ah2 with
            | true =>
              conv => whnf
              repeat' (first | (refine brd_t (by first | assumption | omega) ?_; conv => whnf) | (refine brd_f (by first | assumption | omega) ?_; conv => whnf) | (refine ask (by first | assumption | omega) ?_; conv => whnf) | (refine fit64 (by omega) ?_; conv => whnf) | (refine fit (by simp only [kmin, kmax]; omega) ?_; conv => whnf) | (refine br_t (by assumption) ?_; conv => whnf) | (refine br_f (by assumption) ?_; conv => whnf) | (refine get_of (by assumption) ?_; conv => whnf) | (refine get_map (by assumption) ?_; conv => whnf) | (refine call_up (up_freeze 2 (z := 1) (els := blockL.map V.str) rfl (nrB_nrL _ rfl) (up_here ?_)); conv => whnf) | (refine call_eq (hbl) hC hasBody_51 ?_ ?_ ?_; kernel_rfl; kernel_rfl; conv => whnf) | (refine callq_eq (hbl) hC hasBody_51 ?_ ?_ ?_; kernel_rfl; kernel_rfl; conv => whnf) | (refine call_eq (ihq) hC hasBody_30 ?_ ?_ ?_; kernel_rfl; kernel_rfl; conv => whnf) | (refine callq_eq (ihq) hC hasBody_30 ?_ ?_ ?_; kernel_rfl; kernel_rfl; conv => whnf) | (refine ask (Nat.le_refl 1) ?_; conv => whnf) | (refine ask (by omega) ?_; conv => whnf) | (refine ask ⟨?_, ?_, ?_⟩ ?_; (first | omega | (rw [frzL_length]; omega)); (show _ + 1 ≤ 9223372036854775807; omega); (show (_ + 1) * 80 ≤ 140737488355328; omega); conv => whnf) | (refine brd (fun h => ?_) (fun h => ?_) <;> conv => whnf) | (refine br (fun h => ?_) (fun h => ?_) <;> conv => whnf) | (refine ret_now hE ?_; conv => whnf) | (intro hlen; conv => whnf))
              refine next_drop [1, 6, 12, 13, 14] [1, 2, 3] (k + 1, out ++ [.mk n a t ps'], true) ⟨hlt, by rw [List.length_append]; simp only [List.length_cons, List.length_nil]; omega, plain_add hpl (.mk n a t ps') (fun h => absurd h hn), htx2 ps', ?_⟩ (show l.length - (k + 1) < l.length - k by omega) ?_
              · rw [← hI, hst, spN, if_neg hn, hbk]
                simp only [Bool.or_true, Bool.or_false]
                rw [hr]
              · conv => whnf
                rw [e4, e3]
                rfl
            | false =>
              conv => whnf
              repeat' (first | (refine brd_t (by first | assumption | omega) ?_; conv => whnf) | (refine brd_f (by first | assumption | omega) ?_; conv => whnf) | (refine ask (by first | assumption | omega) ?_; conv => whnf) | (refine fit64 (by omega) ?_; conv => whnf) | (refine fit (by simp only [kmin, kmax]; omega) ?_; conv => whnf) | (refine br_t (by assumption) ?_; conv => whnf) | (refine br_f (by assumption) ?_; conv => whnf) | (refine get_of (by assumption) ?_; conv => whnf) | (refine get_map (by assumption) ?_; conv => whnf) | (refine call_up (up_freeze 2 (z := 1) (els := blockL.map V.str) rfl (nrB_nrL _ rfl) (up_here ?_)); conv => whnf) | (refine call_eq (hbl) hC hasBody_51 ?_ ?_ ?_; kernel_rfl; kernel_rfl; conv => whnf) | (refine callq_eq (hbl) hC hasBody_51 ?_ ?_ ?_; kernel_rfl; kernel_rfl; conv => whnf) | (refine call_eq (ihq) hC hasBody_30 ?_ ?_ ?_; kernel_rfl; kernel_rfl; conv => whnf) | (refine callq_eq (ihq) hC hasBody_30 ?_ ?_ ?_; kernel_rfl; kernel_rfl; conv => whnf) | (refine ask (Nat.le_refl 1) ?_; conv => whnf) | (refine ask (by omega) ?_; conv => whnf) | (refine ask ⟨?_, ?_, ?_⟩ ?_; (first | omega | (rw [frzL_length]; omega)); (show _ + 1 ≤ 9223372036854775807; omega); (show (_ + 1) * 80 ≤ 140737488355328; omega); conv => whnf) | (refine brd (fun h => ?_) (fun h => ?_) <;> conv => whnf) | (refine br (fun h => ?_) (fun h => ?_) <;> conv => whnf) | (refine ret_now hE ?_; conv => whnf) | (intro hlen; conv => whnf))
              refine next_drop [1, 6, 12, 13, 14] [1, 2, 3] (k + 1, out ++ [.mk n a t ps'], false) ⟨hlt, by rw [List.length_append]; simp only [List.length_cons, List.length_nil]; omega, plain_add hpl (.mk n a t ps') (fun h => absurd h hn), htx2 ps', ?_⟩ (show l.length - (k + 1) < l.length - k by omega) ?_
              · rw [← hI, hst, spN, if_neg hn, hbk]
                simp only [Bool.or_true, Bool.or_false]
                rw [hr]
              · conv => whnf
                rw [e4, e3]
                rfl
          | false =>
            have ihq := ih (szL qs) (by omega) qs false (Nat.le_refl _) (by omega)
            generalize hr : spL qs [] false = res at ihq
            obtain ⟨ps', ah2⟩ := res
            simp only at ihq
            have e4 := e4 ps'
            have e3 := e3 ps'
            cases ah2 with
            | true =>
              conv => whnf
              repeat' (first | (refine brd_t (by first | assumption | omega) ?_; conv => whnf) | (refine brd_f (by first | assumption | omega) ?_; conv => whnf) | (refine ask (by first | assumption | omega) ?_; conv => whnf) | (refine fit64 (by omega) ?_; conv => whnf) | (refine fit (by simp only [kmin, kmax]; omega) ?_; conv => whnf) | (refine br_t (by assumption) ?_; conv => whnf) | (refine br_f (by assumption) ?_; conv => whnf) | (refine get_of (by assumption) ?_; conv => whnf) | (refine get_map (by assumption) ?_; conv => whnf) | (refine call_up (up_freeze 2 (z := 1) (els := blockL.map V.str) rfl (nrB_nrL _ rfl) (up_here ?_)); conv => whnf) | (refine call_eq (hbl) hC hasBody_51 ?_ ?_ ?_; kernel_rfl; kernel_rfl; conv => whnf) | (refine callq_eq (hbl) hC hasBody_51 ?_ ?_ ?_; kernel_rfl; kernel_rfl; conv => whnf) | (refine call_eq (ihq) hC hasBody_30 ?_ ?_ ?_; kernel_rfl; kernel_rfl; conv => whnf) | (refine callq_eq (ihq) hC hasBody_30 ?_ ?_ ?_; kernel_rfl; kernel_rfl; conv => whnf) | (refine ask (Nat.le_refl 1) ?_; conv => whnf) | (refine ask (by omega) ?_; conv => whnf) | (refine ask ⟨?_, ?_, ?_⟩ ?_; (first | omega | (rw [frzL_length]; omega)); (show _ + 1 ≤ 9223372036854775807; omega); (show (_ + 1) * 80 ≤ 140737488355328; omega); conv => whnf) | (refine brd (fun h => ?_) (fun h => ?_) <;> conv => whnf) | (refine br (fun h => ?_) (fun h => ?_) <;> conv => whnf) | (refine ret_now hE ?_; conv => whnf) | (intro hlen; conv => whnf))
              refine next_drop [1, 6, 12, 13, 14] [1, 2, 3] (k + 1, out ++ [.mk n a t ps'], true) ⟨hlt, by rw [List.length_append]; simp only [List.length_cons, List.length_nil]; omega, plain_add hpl (.mk n a t ps') (fun h => absurd h hn), htx2 ps', ?_⟩ (show l.length - (k + 1) < l.length - k by omega) ?_
              · rw [← hI, hst, spN, if_neg hn, hbk]
                simp only [Bool.or_true, Bool.or_false]
                rw [hr]
              · conv => whnf
                rw [e4, e3]
                rfl
            | false =>
              conv => whnf
              repeat' (first | (refine brd_t (by first | assumption | omega) ?_; conv => whnf) | (refine brd_f (by first | assumption | omega) ?_; conv => whnf) | (refine ask (by first | assumption | omega) ?_; conv => whnf) | (refine fit64 (by omega) ?_; conv => whnf) | (refine fit (by simp only [kmin, kmax]; omega) ?_; conv => whnf) | (refine br_t (by assumption) ?_; conv => whnf) | (refine br_f (by assumption) ?_; conv => whnf) | (refine get_of (by assumption) ?_; conv => whnf) | (refine get_map (by assumption) ?_; conv => whnf) | (refine call_up (up_freeze 2 (z := 1) (els := blockL.map V.str) rfl (nrB_nrL _ rfl) (up_here ?_)); conv => whnf) | (refine call_eq (hbl) hC hasBody_51 ?_ ?_ ?_; kernel_rfl; kernel_rfl; conv => whnf) | (refine callq_eq (hbl) hC hasBody_51 ?_ ?_ ?_; kernel_rfl; kernel_rfl; conv => whnf) | (refine call_eq (ihq) hC hasBody_30 ?_ ?_ ?_; kernel_rfl; kernel_rfl; conv => whnf) | (refine callq_eq (ihq) hC hasBody_30 ?_ ?_ ?_; kernel_rfl; kernel_rfl; conv => whnf) | (refine ask (Nat.le_refl 1) ?_; conv => whnf) | (refine ask (by omega) ?_; conv => whnf) | (refine ask ⟨?_, ?_, ?_⟩ ?_; (first | omega | (rw [frzL_length]; omega)); (show _ + 1 ≤ 9223372036854775807; omega); (show (_ + 1) * 80 ≤ 140737488355328; omega); conv => whnf) | (refine brd (fun h => ?_) (fun h => ?_) <;> conv => whnf) | (refine br (fun h => ?_) (fun h => ?_) <;> conv => whnf) | (refine ret_now hE ?_; conv => whnf) | (intro hlen; conv => whnf))
              refine next_drop [1, 6, 12, 13, 14] [1, 2, 3] (k + 1, out ++ [.mk n a t ps'], false) ⟨hlt, by rw [List.length_append]; simp only [List.length_cons, List.length_nil]; omega, plain_add hpl (.mk n a t ps') (fun h => absurd h hn), htx2 ps', ?_⟩ (show l.length - (k + 1) < l.length - k by omega) ?_
              · rw [← hI, hst, spN, if_neg hn, hbk]
                simp only [Bool.or_true, Bool.or_false]
                rw [hr]
              · conv => whnf
                rw [e4, e3]
                rfl
    · conv => whnf
      repeat' (first | (refine brd_t (by first | assumption | omega) ?_; conv => whnf) | (refine brd_f (by first | assumption | omega) ?_; conv => whnf) | (refine ask (by first | assumption | omega) ?_; conv => whnf) | (refine fit64 (by omega) ?_; conv => whnf) | (refine fit (by simp only [kmin, kmax]; omega) ?_; conv => whnf) | (refine br_t (by assumption) ?_; conv => whnf) | (refine br_f (by assumption) ?_; conv => whnf) | (refine get_of (by assumption) ?_; conv => whnf) | (refine get_map (by assumption) ?_; conv => whnf) | (refine ret_up (up_frzK 0 4 [5] rfl (nodesL_nr _) rfl hom.symm rfl (up_here ?_))) | (refine brd (fun h => ?_) (fun h => ?_) <;> conv => whnf) | (refine br (fun h => ?_) (fun h => ?_) <;> conv => whnf) | (refine ret_now hE ?_; conv => whnf) | (intro hlen; conv => whnf))
      all_goals (
        refine ⟨rfl, ?_⟩
        rw [spL_end (by omega)] at hI
        rw [← hI, h])
theorem doc_space (l : List Nd) (hsz : szL l ≤ 1048576) : Fn1 Try.prog 12 [.lst (nodesL l)] (fun r => r = .lst (nodesL (spL l [] true).1)) := by
  have h := doc_sp 1048576 l true hsz (Nat.le_refl _)
  cases hb : (spL l [] true).2
  all_goals (
    rw [hb] at h
    refine fn1E (T := Try.tt) Try.func12 rfl tt_all follows_all ?_ ?_ fun C hC hE => ?_
    · kernel_rfl
    · exact Nat.le_of_ble_eq_true (by kernel_rfl)
    conv => whnf
    repeat' (first | (refine brd_t (by first | assumption | omega) ?_; conv => whnf) | (refine brd_f (by first | assumption | omega) ?_; conv => whnf) | (refine ask (by first | assumption | omega) ?_; conv => whnf) | (refine fit64 (by omega) ?_; conv => whnf) | (refine fit (by simp only [kmin, kmax]; omega) ?_; conv => whnf) | (refine br_t (by assumption) ?_; conv => whnf) | (refine br_f (by assumption) ?_; conv => whnf) | (refine get_of (by assumption) ?_; conv => whnf) | (refine get_map (by assumption) ?_; conv => whnf) | (refine call_eq (h) hC hasBody_30 ?_ ?_ ?_; kernel_rfl; kernel_rfl; conv => whnf) | (refine callq_eq (h) hC hasBody_30 ?_ ?_ ?_; kernel_rfl; kernel_rfl; conv => whnf) | (refine brd (fun h => ?_) (fun h => ?_) <;> conv => whnf) | (refine br (fun h => ?_) (fun h => ?_) <;> conv => whnf) | (refine ret_now hE ?_; conv => whnf) | (intro hlen; conv => whnf))
    exact ⟨rfl, rfl⟩)
theorem spaceNodeses_law (l : List Nd) (hsz : szL l ≤ 1048576) : Fn1 Try.prog 4 [.lst (nodesL l)] (fun r => r = .bool true) := by
  have h1 := space_nodes l hsz
  have h2 := doc_space l hsz
  have h3 := same_nodes (szL (spL l [] true).1) (spL l [] true).1 (Nat.le_refl _)
  refine fn1E (T := Try.tt) Try.func4 rfl tt_all follows_all ?_ ?_ fun C hC hE => ?_
  · kernel_rfl
  · exact Nat.le_of_ble_eq_true (by kernel_rfl)
  conv => whnf
  repeat' (first | (refine brd_t (by first | assumption | omega) ?_; conv => whnf) | (refine brd_f (by first | assumption | omega) ?_; conv => whnf) | (refine ask (by first | assumption | omega) ?_; conv => whnf) | (refine fit64 (by omega) ?_; conv => whnf) | (refine fit (by simp only [kmin, kmax]; omega) ?_; conv => whnf) | (refine br_t (by assumption) ?_; conv => whnf) | (refine br_f (by assumption) ?_; conv => whnf) | (refine get_of (by assumption) ?_; conv => whnf) | (refine get_map (by assumption) ?_; conv => whnf) | (refine call_eq (h1) hC hasBody_11 ?_ ?_ ?_; kernel_rfl; kernel_rfl; conv => whnf) | (refine callq_eq (h1) hC hasBody_11 ?_ ?_ ?_; kernel_rfl; kernel_rfl; conv => whnf) | (refine call_eq (h2) hC hasBody_12 ?_ ?_ ?_; kernel_rfl; kernel_rfl; conv => whnf) | (refine callq_eq (h2) hC hasBody_12 ?_ ?_ ?_; kernel_rfl; kernel_rfl; conv => whnf) | (refine call_eq (h3) hC hasBody_10 ?_ ?_ ?_; kernel_rfl; kernel_rfl; conv => whnf) | (refine callq_eq (h3) hC hasBody_10 ?_ ?_ ?_; kernel_rfl; kernel_rfl; conv => whnf) | (refine brd (fun h => ?_) (fun h => ?_) <;> conv => whnf) | (refine br (fun h => ?_) (fun h => ?_) <;> conv => whnf) | (refine ret_now hE ?_; conv => whnf) | (intro hlen; conv => whnf))
  exact ⟨rfl, rfl⟩
end Go.Proofs.Yteekfmflecgjmaa
