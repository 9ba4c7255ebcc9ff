/- space.Nodes: the walker's method, walked. No conditions. -/
import Derived.Test.YteekfmflecgjmaaSpN
set_option linter.unusedSimpArgs false
set_option linter.unusedVariables false
set_option maxRecDepth 100000
namespace Go.Proofs.Yteekfmflecgjmaa
open Go.RowKit

theorem rnL_self {k : Nat} {ρ : Nat → Nat} : ∀ {l : List V}, nrL l → rnL k ρ l l
  | [], _ => by simp [rnL]
  | x :: l, h => by
    simp only [rnL]
    exact ⟨x, l, rfl, rnV_nr x h.1, rnL_self h.2⟩
theorem killUM_nil (u : List (Nat × V)) : killUM [] u = u := by unfold killUM; simp [killM]
/-- A call of a method on an own variable: it stays where it lies. -/
theorem call_mth {C : Ctx} {P : Program} {f : FuncId} {z : Nat} {els els' xs0 : List V} {R0 : V} {fop : Operand} {args : List Operand} {K : V → ES → Prop} {σ : ES} (h : HFn P f (.ptr 0 0 0 :: xs0) [.row z els] [0] (fun r o => r = R0 ∧ o = [.row z els'])) (hC : C.P = P) (hb : hasBody P f = true)
    (p : Nat) (he : evalC σ fop args = some (f, .ptr p 0 0 :: xs0)) (hx : nrL xs0) (hR : R0.nr) (hrow : σ.heap[p]? = some (some (.row z els))) (hn : nrL els) (hn' : nrL els')
    (hK : fH (σ.heap.set p (some (.row z els'))) fun h => K R0 ⟨σ.n, σ.u, h⟩) : CallN C fop args f (.ptr p 0 0 :: xs0) K σ := by
  rw [fH_eq] at hK
  refine call_h h hC hb he (fun _ => p) ?_ ?_ ?_ [] ?_ ?_ ?_
  · intro i j hi hj _
    simp at hi hj
    omega
  · simp only [rnL]
    exact ⟨.ptr p 0 0, xs0, rfl, by simp [rnV], rnL_self hx⟩
  · intro j o ho
    match j, ho with
    | 0, ho =>
      simp at ho
      subst ho
      exact ⟨_, hrow, els, rfl, rnL_self hn⟩
    | n + 1, ho => simp at ho
  · intro j hj _
    simp at hj
    subst hj
    simp
  · intro id hid
    simp at hid
  · rintro r0 objs' ⟨rfl, rfl⟩ _
    refine ⟨r0, [.row z els'], rnV_nr r0 hR, rfl, ?_, by rw [killUM_nil]; exact hK⟩
    intro j o o' ho ho'
    match j, ho, ho' with
    | 0, ho, ho' =>
      simp at ho ho'
      subst ho; subst ho'
      exact ⟨els', rfl, rnL_self hn'⟩
    | n + 1, ho, _ => simp at ho
theorem Rep.nl {w : World} {I : Nat → Prop} {bl : Nat → Option BI} {v : Value} {x : V} (h : Rep w I bl v x) : Rep w I bl v x.nl := by
  induction h with
  | pure v x h => exact .pure _ _ h.nl
  | nsl id base z h => exact .nsl id base z h
  | sl id off len cap b base z n e h1 h2 h3 h4 h5 => exact .sl id off len cap b base z n e h1 h2 h3 h4 h5
  | esl id off a i h => exact .esl id off a i h
  | ptr id i j b base z n e h1 h2 => exact .ptr id i j b base z n e h1 h2
  | it id b base z h1 => exact .it id b base z h1
  | agg vs l h1 h2 h3 ih =>
    simp only [V.nl]
    refine .agg vs _ (by rw [nlL_length, h1]) h2 (fun i v c hv hc => ?_)
    obtain ⟨x, hx, rfl⟩ := nlL_get l i c hc
    exact ih i v x hv hx
  | fn f vs l h1 h2 ih =>
    simp only [V.nl]
    refine .fn f vs _ (by rw [nlL_length, h1]) (fun i v c hv hc => ?_)
    obtain ⟨x, hx, rfl⟩ := nlL_get l i c hc
    exact ih i v x hv hx
  | tup vs l h1 h2 ih =>
    simp only [V.nl]
    refine .tup vs _ (by rw [nlL_length, h1]) (fun i v c hv hc => ?_)
    obtain ⟨x, hx, rfl⟩ := nlL_get l i c hc
    exact ih i v x hv hx
theorem nlL_append : ∀ a b : List V, nlL (a ++ b) = nlL a ++ nlL b
  | [], b => by simp [nlL]
  | x :: a, b => by simp [nlL, nlL_append a b]
/-- Nil slices among an object's values are empty slices. -/
theorem up_nl {C : Ctx} {K : ES → Prop} (p : Nat) {z n : Nat} {els : List V} {u : List (Nat × V)} {h : List (Option Ob)} (ho : h[p]? = some (some (.row z els))) (hk : UpE C K ⟨n, u, h.set p (some (.row z (nlL els)))⟩) : UpE C K ⟨n, u, h⟩ := by
  refine ⟨up_of_rel (fun a w hr => ?_) hk.out⟩
  obtain ⟨I, bl, hp⟩ := hr.parts
  have hpl : p < h.length := (List.getElem?_eq_some_iff.1 ho).1
  refine RP.rel (I := I) (bl := bl) ⟨hp.defers, hp.env, ⟨fun id o hoo => ?_, fun id i hi => ?_, hp.heap.apart, hp.heap.own, hp.heap.imm, hp.heap.kept⟩⟩
  · have hoo : (h.set p (some (.row z (nlL els))))[id]? = some (some o) := hoo
    by_cases e : id = p
    · subst e
      rw [List.getElem?_set_self hpl] at hoo
      simp only [Option.some.injEq] at hoo
      subst hoo
      obtain ⟨bi, h1, h2, h3, h4⟩ := hp.heap.obj id _ ho
      refine ⟨bi, h1, h2, fun i x hx => ?_, ?_⟩
      · obtain ⟨y, hy, rfl⟩ := nlL_get els i x hx
        rw [nl_cells, nlL_length]; exact h3 i y hy
      · cases hbl : bi.blk with
        | none => simp only [hbl] at h4 ⊢; subst h4; rfl
        | some b =>
          simp only [hbl] at h4 ⊢
          obtain ⟨cur, e, hg, hsz, hc⟩ := h4
          refine ⟨cur, e, hg, by rw [nlL_length]; exact hsz, fun i x j c hx hxc => ?_⟩
          obtain ⟨y, hy, rfl⟩ := nlL_get els i x hx
          rw [nl_cells] at hxc
          obtain ⟨c', hc', rfl⟩ := nlL_get _ j c hxc
          obtain ⟨u, hu, h1', hr'⟩ := hc i y j c' hy hc'
          exact ⟨u, hu, h1', hr'.nl⟩
    · rw [List.getElem?_set_ne (Ne.symm e)] at hoo
      exact hp.heap.obj id o hoo
  · show ∃ o, (h.set p (some (.row z (nlL els))))[id]? = some (some o)
    by_cases e : id = p
    · subst e; exact ⟨_, List.getElem?_set_self hpl⟩
    · rw [List.getElem?_set_ne (Ne.symm e)]
      exact hp.heap.live id i hi
set_option maxHeartbeats 16000000 in
theorem sp_nodes : ∀ (N : Nat) (l : List Nd) (ah : Bool), szL l ≤ N → N ≤ 1048576 → HFn Try.prog 29 [.ptr 0 0 0, .lst (nodesL l)] [.row 1 [.agg [.bool ah]]] [0]
    (fun r o => r = .lst (nodesL (spL l [] ah).1) ∧ o = [.row 1 [.agg [.bool (spL l [] ah).2]]]) := by
  intro N
  induction N using Nat.strongRecOn with
  | _ N ih =>
    intro l ah0 hps hN
    have hlm := nodesL_length l
    refine hfnE (T := Try.tt) Try.func29 rfl tt_all follows_all ?_ ?_ fun C vs hC hE => ?_
    · kernel_rfl
    · exact Nat.le_of_ble_eq_true (by kernel_rfl)
    conv => whnf
    repeat' (first | (refine brd_t (by first | assumption | omega) ?_; conv => whnf) | (refine brd_f (by first | assumption | omega) ?_; conv => whnf) | (refine ask (by first | assumption | omega) ?_; conv => whnf) | (refine fit64 (by omega) ?_; conv => whnf) | (refine fit (by simp only [kmin, kmax]; omega) ?_; conv => whnf) | (refine br_t (by assumption) ?_; conv => whnf) | (refine br_f (by assumption) ?_; conv => whnf) | (refine get_of (by assumption) ?_; conv => whnf) | (refine get_map (by assumption) ?_; conv => whnf) | (refine brd (fun h => ?_) (fun h => ?_) <;> conv => whnf) | (refine br (fun h => ?_) (fun h => ?_) <;> conv => whnf) | (refine ret_now hE ?_; conv => whnf) | (intro hlen; conv => whnf))
    refine loopE (fun ((k, out, ah) : Nat × List Nd × Bool) => ⟨104, [(0, .ptr 0 0 0), (5, .sl 2 0 out.length), (10, .lst (nodesL l)), (11, .int .i64 (nodesL l).length), (12, .int .i64 k)], [some (.row 1 [.agg [.bool ah]]), some (.hid vs [.ptr 0 0 0, .lst (nodesL l)]), some (.row 4 (nodesL out))]⟩)
      (fun (k, out, ah) => k ≤ l.length ∧ out.length ≤ k ∧ plainT out ∧ (∀ x ∈ out, x.text.length ≤ szL (l.take k)) ∧ spL (l.drop k) out ah = spL l [] ah0) (fun (k, _, _) => l.length - k) (0, [], ah0) hE ?_ ?_ ⟨Nat.zero_le _, Nat.le_refl _, fun x hx => by simp at hx, fun x hx => by simp at hx, by simp⟩ ?_
    · kernel_rfl
    · exact up_own 5 4 rfl rfl (at_keep [0, 5, 10, 11, 12] rfl)
    rintro ⟨k, out, ah⟩ ⟨hk, hok, hpl, htx, hI⟩
    have hom := nodesL_length out
    have hll := szL_len l
    by_cases hlt : k < l.length
    · obtain ⟨n, a, t, qs, hx, hx'⟩ := node_at hlt
      have hst := spL_step hx out ah
      have hp2 := szL_mem (List.mem_of_getElem? hx)
      have e1 : szN (.mk n a t qs) = (n.length + 1) + ((a.map szA).sum + 1) + (t.length + 1) + (szL qs + 1) + 1 := by simp only [szN, szS]
      have hal := szA_len a
      have hlq := nodesL_length qs
      have htk : List.take out.length (List.drop 0 (nodesL out)) = nodesL out := by rw [List.drop_zero]; exact List.take_of_length_le (by omega)
      have hcl := clone_atts a (by omega)
      have hbl := sp_block n
      have hszk := szL_take hx
      have hszl := szL_take_le l (k + 1)
      have htx1 : ∀ x ∈ out, x.text.length ≤ szL (l.take (k + 1)) := fun x hx => by have := htx x hx; omega
      by_cases hn : n = []
      · have hsx := space_text t ah (by omega)
        have hsl := spText_len t ah
        have hsp : spN (.mk n a t qs) out ah = if spText ah t = [] then (out, ah) else (addTx out (spText ah t), endsSp (spText ah t)) := by rw [spN, if_pos hn]
        generalize spText ah t = tx at hsx hsl hsp
        by_cases htx0 : tx = []
        · rw [if_pos htx0] at hsp
          cases ah with
          | false =>
            conv => whnf
            repeat' (first | (refine brd_t (by first | assumption | omega) ?_; conv => whnf) | (refine brd_f (by first | assumption | omega) ?_; conv => whnf) | (refine ask (by first | assumption | omega) ?_; conv => whnf) | (refine fit64 (by omega) ?_; conv => whnf) | (refine fit (by simp only [kmin, kmax]; omega) ?_; conv => whnf) | (refine br_t (by assumption) ?_; conv => whnf) | (refine br_f (by assumption) ?_; conv => whnf) | (refine get_of (by assumption) ?_; conv => whnf) | (refine get_map (by assumption) ?_; conv => whnf) | (refine brd_t rfl ?_; conv => whnf) | (refine call_eq (hsx) hC hasBody_48 ?_ ?_ ?_; kernel_rfl; kernel_rfl; conv => whnf) | (refine callq_eq (hsx) hC hasBody_48 ?_ ?_ ?_; kernel_rfl; kernel_rfl; conv => whnf) | (refine call_eq (hsuf) hC hasBody_49 ?_ ?_ ?_; kernel_rfl; kernel_rfl; conv => whnf) | (refine callq_eq (hsuf) hC hasBody_49 ?_ ?_ ?_; kernel_rfl; kernel_rfl; conv => whnf) | (refine ask (Nat.le_refl 1) ?_; conv => whnf) | (refine ask (by omega) ?_; conv => whnf) | (refine ask ⟨?_, ?_, ?_⟩ ?_; omega; (show _ + 1 ≤ 9223372036854775807; omega); (show (_ + 1) * 80 ≤ 140737488355328; omega); conv => whnf) | (refine brd (fun h => ?_) (fun h => ?_) <;> conv => whnf) | (refine br (fun h => ?_) (fun h => ?_) <;> conv => whnf) | (refine ret_now hE ?_; conv => whnf) | (intro hlen; conv => whnf))
            refine next_drop [0, 5, 10, 11, 12] [3] (k + 1, out, false) ⟨hlt, by omega, hpl, htx1, by rw [← hI, hst, hsp]⟩ (show l.length - (k + 1) < l.length - k by omega) ?_
            conv => whnf
            rw [kill_nodes]
            rfl
          | true =>
            conv => whnf
            repeat' (first | (refine brd_t (by first | assumption | omega) ?_; conv => whnf) | (refine brd_f (by first | assumption | omega) ?_; conv => whnf) | (refine ask (by first | assumption | omega) ?_; conv => whnf) | (refine fit64 (by omega) ?_; conv => whnf) | (refine fit (by simp only [kmin, kmax]; omega) ?_; conv => whnf) | (refine br_t (by assumption) ?_; conv => whnf) | (refine br_f (by assumption) ?_; conv => whnf) | (refine get_of (by assumption) ?_; conv => whnf) | (refine get_map (by assumption) ?_; conv => whnf) | (refine brd_t rfl ?_; conv => whnf) | (refine call_eq (hsx) hC hasBody_48 ?_ ?_ ?_; kernel_rfl; kernel_rfl; conv => whnf) | (refine callq_eq (hsx) hC hasBody_48 ?_ ?_ ?_; kernel_rfl; kernel_rfl; conv => whnf) | (refine call_eq (hsuf) hC hasBody_49 ?_ ?_ ?_; kernel_rfl; kernel_rfl; conv => whnf) | (refine callq_eq (hsuf) hC hasBody_49 ?_ ?_ ?_; kernel_rfl; kernel_rfl; conv => whnf) | (refine ask (Nat.le_refl 1) ?_; conv => whnf) | (refine ask (by omega) ?_; conv => whnf) | (refine ask ⟨?_, ?_, ?_⟩ ?_; omega; (show _ + 1 ≤ 9223372036854775807; omega); (show (_ + 1) * 80 ≤ 140737488355328; omega); conv => whnf) | (refine brd (fun h => ?_) (fun h => ?_) <;> conv => whnf) | (refine br (fun h => ?_) (fun h => ?_) <;> conv => whnf) | (refine ret_now hE ?_; conv => whnf) | (intro hlen; conv => whnf))
            refine next_drop [0, 5, 10, 11, 12] [3] (k + 1, out, true) ⟨hlt, by omega, hpl, htx1, by rw [← hI, hst, hsp]⟩ (show l.length - (k + 1) < l.length - k by omega) ?_
            conv => whnf
            rw [kill_nodes]
            rfl
        · rw [if_neg htx0] at hsp
          have hsuf := has_suffix tx htx0
          generalize endsSp tx = eb at hsuf hsp
          have e3 : out.length + (List.take 1 (List.drop 0 [V.agg [.str n, .nils, .str tx, .nils]])).length = (out ++ [Nd.mk [] [] tx []]).length := by simp
          have e4 : killL 4 (killL 3 (nlL (killL 2 (List.take out.length (List.drop 0 (nodesL out)) ++ List.take 1 (List.drop 0 [V.agg [.str n, .nils, .str tx, .nils]]))))) = nodesL (out ++ [.mk [] [] tx []]) := by
            rw [htk, kill_nrL _ ((nrL_append _ _).2 ⟨nodesL_nr _, nrB_nrL (List.take 1 (List.drop 0 [V.agg [.str n, .nils, .str tx, .nils]])) rfl⟩), nlL_append, nl_nodes, hn]
            have : nlL (List.take 1 (List.drop 0 [V.agg [.str [], .nils, .str tx, .nils]])) = nodesL [.mk [] [] tx []] := by simp [nlL, V.nl, nodesL, nodeA_mk]
            rw [this, ← nodesL_append, kill_nodes, kill_nodes]
          have htx3 : ∀ x ∈ out ++ [Nd.mk [] [] tx []], x.text.length ≤ szL (l.take (k + 1)) := fun x hx => by
            rcases List.mem_append.1 hx with hx | hx
            · exact htx1 x hx
            · simp at hx
              subst hx
              show tx.length ≤ _
              omega
          rcases last_cases out with ho | ⟨o, x, ho⟩
          · have hz : out.length = 0 := by rw [ho]; rfl
            have hadd : addTx out tx = out ++ [.mk [] [] tx []] := by rw [ho]; rfl
            cases ah
            all_goals cases eb
            · conv => whnf
              repeat' (first | (refine brd_t (by first | assumption | omega) ?_; conv => whnf) | (refine brd_f (by first | assumption | omega) ?_; conv => whnf) | (refine ask (by first | assumption | omega) ?_; conv => whnf) | (refine fit64 (by omega) ?_; conv => whnf) | (refine fit (by simp only [kmin, kmax]; omega) ?_; conv => whnf) | (refine br_t (by assumption) ?_; conv => whnf) | (refine br_f (by assumption) ?_; conv => whnf) | (refine get_of (by assumption) ?_; conv => whnf) | (refine get_map (by assumption) ?_; conv => whnf) | (refine brd_t rfl ?_; conv => whnf) | (refine call_eq (hsx) hC hasBody_48 ?_ ?_ ?_; kernel_rfl; kernel_rfl; conv => whnf) | (refine callq_eq (hsx) hC hasBody_48 ?_ ?_ ?_; kernel_rfl; kernel_rfl; conv => whnf) | (refine call_eq (hsuf) hC hasBody_49 ?_ ?_ ?_; kernel_rfl; kernel_rfl; conv => whnf) | (refine callq_eq (hsuf) hC hasBody_49 ?_ ?_ ?_; kernel_rfl; kernel_rfl; conv => whnf) | (refine ask (Nat.le_refl 1) ?_; conv => whnf) | (refine ask (by omega) ?_; conv => whnf) | (refine ask ⟨?_, ?_, ?_⟩ ?_; omega; (show _ + 1 ≤ 9223372036854775807; omega); (show (_ + 1) * 80 ≤ 140737488355328; omega); conv => whnf) | (refine brd (fun h => ?_) (fun h => ?_) <;> conv => whnf) | (refine br (fun h => ?_) (fun h => ?_) <;> conv => whnf) | (refine ret_now hE ?_; conv => whnf) | (intro hlen; conv => whnf))
              refine up_nl 2 rfl (next_drop [0, 5, 10, 11, 12] [3, 4] (k + 1, out ++ [.mk [] [] tx []], false) ⟨hlt, by rw [List.length_append]; simp only [List.length_cons, List.length_nil]; omega, plain_add hpl (.mk [] [] tx []) (fun _ => ⟨tx, rfl⟩), htx3, by rw [← hI, hst, hsp, hadd]⟩ (show l.length - (k + 1) < l.length - k by omega) ?_)
              conv => whnf
              rw [e3, e4]
              rfl
            · conv => whnf
              repeat' (first | (refine brd_t (by first | assumption | omega) ?_; conv => whnf) | (refine brd_f (by first | assumption | omega) ?_; conv => whnf) | (refine ask (by first | assumption | omega) ?_; conv => whnf) | (refine fit64 (by omega) ?_; conv => whnf) | (refine fit (by simp only [kmin, kmax]; omega) ?_; conv => whnf) | (refine br_t (by assumption) ?_; conv => whnf) | (refine br_f (by assumption) ?_; conv => whnf) | (refine get_of (by assumption) ?_; conv => whnf) | (refine get_map (by assumption) ?_; conv => whnf) | (refine brd_t rfl ?_; conv => whnf) | (refine call_eq (hsx) hC hasBody_48 ?_ ?_ ?_; kernel_rfl; kernel_rfl; conv => whnf) | (refine callq_eq (hsx) hC hasBody_48 ?_ ?_ ?_; kernel_rfl; kernel_rfl; conv => whnf) | (refine call_eq (hsuf) hC hasBody_49 ?_ ?_ ?_; kernel_rfl; kernel_rfl; conv => whnf) | (refine callq_eq (hsuf) hC hasBody_49 ?_ ?_ ?_; kernel_rfl; kernel_rfl; conv => whnf) | (refine ask (Nat.le_refl 1) ?_; conv => whnf) | (refine ask (by omega) ?_; conv => whnf) | (refine ask ⟨?_, ?_, ?_⟩ ?_; omega; (show _ + 1 ≤ 9223372036854775807; omega); (show (_ + 1) * 80 ≤ 140737488355328; omega); conv => whnf) | (refine brd (fun h => ?_) (fun h => ?_) <;> conv => whnf) | (refine br (fun h => ?_) (fun h => ?_) <;> conv => whnf) | (refine ret_now hE ?_; conv => whnf) | (intro hlen; conv => whnf))
              refine up_nl 2 rfl (next_drop [0, 5, 10, 11, 12] [3, 4] (k + 1, out ++ [.mk [] [] tx []], true) ⟨hlt, by rw [List.length_append]; simp only [List.length_cons, List.length_nil]; omega, plain_add hpl (.mk [] [] tx []) (fun _ => ⟨tx, rfl⟩), htx3, by rw [← hI, hst, hsp, hadd]⟩ (show l.length - (k + 1) < l.length - k by omega) ?_)
              conv => whnf
              rw [e3, e4]
              rfl
            · conv => whnf
              repeat' (first | (refine brd_t (by first | assumption | omega) ?_; conv => whnf) | (refine brd_f (by first | assumption | omega) ?_; conv => whnf) | (refine ask (by first | assumption | omega) ?_; conv => whnf) | (refine fit64 (by omega) ?_; conv => whnf) | (refine fit (by simp only [kmin, kmax]; omega) ?_; conv => whnf) | (refine br_t (by assumption) ?_; conv => whnf) | (refine br_f (by assumption) ?_; conv => whnf) | (refine get_of (by assumption) ?_; conv => whnf) | (refine get_map (by assumption) ?_; conv => whnf) | (refine brd_t rfl ?_; conv => whnf) | (refine call_eq (hsx) hC hasBody_48 ?_ ?_ ?_; kernel_rfl; kernel_rfl; conv => whnf) | (refine callq_eq (hsx) hC hasBody_48 ?_ ?_ ?_; kernel_rfl; kernel_rfl; conv => whnf) | (refine call_eq (hsuf) hC hasBody_49 ?_ ?_ ?_; kernel_rfl; kernel_rfl; conv => whnf) | (refine callq_eq (hsuf) hC hasBody_49 ?_ ?_ ?_; kernel_rfl; kernel_rfl; conv => whnf) | (refine ask (Nat.le_refl 1) ?_; conv => whnf) | (refine ask (by omega) ?_; conv => whnf) | (refine ask ⟨?_, ?_, ?_⟩ ?_; omega; (show _ + 1 ≤ 9223372036854775807; omega); (show (_ + 1) * 80 ≤ 140737488355328; omega); conv => whnf) | (refine brd (fun h => ?_) (fun h => ?_) <;> conv => whnf) | (refine br (fun h => ?_) (fun h => ?_) <;> conv => whnf) | (refine ret_now hE ?_; conv => whnf) | (intro hlen; conv => whnf))
              refine up_nl 2 rfl (next_drop [0, 5, 10, 11, 12] [3, 4] (k + 1, out ++ [.mk [] [] tx []], false) ⟨hlt, by rw [List.length_append]; simp only [List.length_cons, List.length_nil]; omega, plain_add hpl (.mk [] [] tx []) (fun _ => ⟨tx, rfl⟩), htx3, by rw [← hI, hst, hsp, hadd]⟩ (show l.length - (k + 1) < l.length - k by omega) ?_)
              conv => whnf
              rw [e3, e4]
              rfl
            · conv => whnf
              repeat' (first | (refine brd_t (by first | assumption | omega) ?_; conv => whnf) | (refine brd_f (by first | assumption | omega) ?_; conv => whnf) | (refine ask (by first | assumption | omega) ?_; conv => whnf) | (refine fit64 (by omega) ?_; conv => whnf) | (refine fit (by simp only [kmin, kmax]; omega) ?_; conv => whnf) | (refine br_t (by assumption) ?_; conv => whnf) | (refine br_f (by assumption) ?_; conv => whnf) | (refine get_of (by assumption) ?_; conv => whnf) | (refine get_map (by assumption) ?_; conv => whnf) | (refine brd_t rfl ?_; conv => whnf) | (refine call_eq (hsx) hC hasBody_48 ?_ ?_ ?_; kernel_rfl; kernel_rfl; conv => whnf) | (refine callq_eq (hsx) hC hasBody_48 ?_ ?_ ?_; kernel_rfl; kernel_rfl; conv => whnf) | (refine call_eq (hsuf) hC hasBody_49 ?_ ?_ ?_; kernel_rfl; kernel_rfl; conv => whnf) | (refine callq_eq (hsuf) hC hasBody_49 ?_ ?_ ?_; kernel_rfl; kernel_rfl; conv => whnf) | (refine ask (Nat.le_refl 1) ?_; conv => whnf) | (refine ask (by omega) ?_; conv => whnf) | (refine ask ⟨?_, ?_, ?_⟩ ?_; omega; (show _ + 1 ≤ 9223372036854775807; omega); (show (_ + 1) * 80 ≤ 140737488355328; omega); conv => whnf) | (refine brd (fun h => ?_) (fun h => ?_) <;> conv => whnf) | (refine br (fun h => ?_) (fun h => ?_) <;> conv => whnf) | (refine ret_now hE ?_; conv => whnf) | (intro hlen; conv => whnf))
              refine up_nl 2 rfl (next_drop [0, 5, 10, 11, 12] [3, 4] (k + 1, out ++ [.mk [] [] tx []], true) ⟨hlt, by rw [List.length_append]; simp only [List.length_cons, List.length_nil]; omega, plain_add hpl (.mk [] [] tx []) (fun _ => ⟨tx, rfl⟩), htx3, by rw [← hI, hst, hsp, hadd]⟩ (show l.length - (k + 1) < l.length - k by omega) ?_)
              conv => whnf
              rw [e3, e4]
              rfl
          · obtain ⟨n', a', t', ps'⟩ := x
            have hol : out.length = o.length + 1 := by rw [ho]; simp
            by_cases hn' : n' = []
            · have hmem : Nd.mk n' a' t' ps' ∈ out := by rw [ho]; simp
              obtain ⟨t'', et⟩ := hpl _ hmem hn'
              have htl := htx _ hmem
              change t'.length ≤ _ at htl
              cases et
              have hpl2 : plainT (o ++ [.mk [] [] t' []]) := ho ▸ hpl
              have hlast : (nodesL out)[0 + ((out.length : Int) - 1).toNat]? = some (.agg [.str [], .lst [], .str t', .lst []]) := by
                rw [Nat.zero_add, show ((out.length : Int) - 1).toNat = o.length by omega, ho, nodesL_append, List.getElem?_append_right (by rw [nodesL_length]; exact Nat.le_refl _), nodesL_length]
                simp [nodesL, nodeA_mk]
              have htx4 : ∀ x ∈ o ++ [Nd.mk [] [] (t' ++ tx) []], x.text.length ≤ szL (l.take (k + 1)) := fun x hx => by
                rcases List.mem_append.1 hx with hx | hx
                · exact htx1 x (by rw [ho]; exact List.mem_append.2 (.inl hx))
                · simp at hx
                  subst hx
                  show (t' ++ tx).length ≤ _
                  rw [List.length_append]
                  omega
              have e6 : killL 3 ((nodesL out).set (0 + ((out.length : Int) - 1).toNat) (.agg [.str [], .lst [], .str (t' ++ tx), .lst []])) = nodesL (o ++ [.mk [] [] (t' ++ tx) []]) := by
                rw [Nat.zero_add, show ((out.length : Int) - 1).toNat = o.length by omega, ho, nodesL_append, List.set_append_right _ _ (by rw [nodesL_length]; exact Nat.le_refl _), nodesL_length, Nat.sub_self]
                have : (nodesL [Nd.mk [] [] t' []]).set 0 (.agg [.str [], .lst [], .str (t' ++ tx), .lst []]) = nodesL [.mk [] [] (t' ++ tx) []] := by simp [nodesL, nodeA_mk]
                rw [this, ← nodesL_append, kill_nodes]
              have e5 : out.length = (o ++ [Nd.mk [] [] (t' ++ tx) []]).length := by rw [hol]; simp
              cases ah
              all_goals cases eb
              · conv => whnf
                repeat' (first | (refine brd_t (by first | assumption | omega) ?_; conv => whnf) | (refine brd_f (by first | assumption | omega) ?_; conv => whnf) | (refine ask (by first | assumption | omega) ?_; conv => whnf) | (refine fit64 (by omega) ?_; conv => whnf) | (refine fit (by simp only [kmin, kmax]; omega) ?_; conv => whnf) | (refine br_t (by assumption) ?_; conv => whnf) | (refine br_f (by assumption) ?_; conv => whnf) | (refine get_of (by assumption) ?_; conv => whnf) | (refine get_map (by assumption) ?_; conv => whnf) | (refine brd_t rfl ?_; conv => whnf) | (refine get_of hlast ?_; conv => whnf) | (refine call_eq (hsx) hC hasBody_48 ?_ ?_ ?_; kernel_rfl; kernel_rfl; conv => whnf) | (refine callq_eq (hsx) hC hasBody_48 ?_ ?_ ?_; kernel_rfl; kernel_rfl; conv => whnf) | (refine call_eq (hsuf) hC hasBody_49 ?_ ?_ ?_; kernel_rfl; kernel_rfl; conv => whnf) | (refine callq_eq (hsuf) hC hasBody_49 ?_ ?_ ?_; kernel_rfl; kernel_rfl; conv => whnf) | (refine ask (Nat.le_refl 1) ?_; conv => whnf) | (refine ask (by omega) ?_; conv => whnf) | (refine ask ⟨?_, ?_, ?_⟩ ?_; omega; (show _ + 1 ≤ 9223372036854775807; omega); (show (_ + 1) * 80 ≤ 140737488355328; omega); conv => whnf) | (refine brd (fun h => ?_) (fun h => ?_) <;> conv => whnf) | (refine br (fun h => ?_) (fun h => ?_) <;> conv => whnf) | (refine ret_now hE ?_; conv => whnf) | (intro hlen; conv => whnf))
                refine next_drop [0, 5, 10, 11, 12] [3] (k + 1, o ++ [.mk [] [] (t' ++ tx) []], false) ⟨hlt, by rw [List.length_append]; simp only [List.length_cons, List.length_nil]; omega, plain_add (plain_left hpl2) (.mk [] [] (t' ++ tx) []) (fun _ => ⟨_, rfl⟩), htx4, by rw [← hI, hst, hsp, ho, addTx_text]⟩ (show l.length - (k + 1) < l.length - k by omega) ?_
                conv => whnf
                rw [e6, e5]
                rfl
              · conv => whnf
                repeat' (first | (refine brd_t (by first | assumption | omega) ?_; conv => whnf) | (refine brd_f (by first | assumption | omega) ?_; conv => whnf) | (refine ask (by first | assumption | omega) ?_; conv => whnf) | (refine fit64 (by omega) ?_; conv => whnf) | (refine fit (by simp only [kmin, kmax]; omega) ?_; conv => whnf) | (refine br_t (by assumption) ?_; conv => whnf) | (refine br_f (by assumption) ?_; conv => whnf) | (refine get_of (by assumption) ?_; conv => whnf) | (refine get_map (by assumption) ?_; conv => whnf) | (refine brd_t rfl ?_; conv => whnf) | (refine get_of hlast ?_; conv => whnf) | (refine call_eq (hsx) hC hasBody_48 ?_ ?_ ?_; kernel_rfl; kernel_rfl; conv => whnf) | (refine callq_eq (hsx) hC hasBody_48 ?_ ?_ ?_; kernel_rfl; kernel_rfl; conv => whnf) | (refine call_eq (hsuf) hC hasBody_49 ?_ ?_ ?_; kernel_rfl; kernel_rfl; conv => whnf) | (refine callq_eq (hsuf) hC hasBody_49 ?_ ?_ ?_; kernel_rfl; kernel_rfl; conv => whnf) | (refine ask (Nat.le_refl 1) ?_; conv => whnf) | (refine ask (by omega) ?_; conv => whnf) | (refine ask ⟨?_, ?_, ?_⟩ ?_; omega; (show _ + 1 ≤ 9223372036854775807; omega); (show (_ + 1) * 80 ≤ 140737488355328; omega); conv => whnf) | (refine brd (fun h => ?_) (fun h => ?_) <;> conv => whnf) | (refine br (fun h => ?_) (fun h => ?_) <;> conv => whnf) | (refine ret_now hE ?_; conv => whnf) | (intro hlen; conv => whnf))
                refine next_drop [0, 5, 10, 11, 12] [3] (k + 1, o ++ [.mk [] [] (t' ++ tx) []], true) ⟨hlt, by rw [List.length_append]; simp only [List.length_cons, List.length_nil]; omega, plain_add (plain_left hpl2) (.mk [] [] (t' ++ tx) []) (fun _ => ⟨_, rfl⟩), htx4, by rw [← hI, hst, hsp, ho, addTx_text]⟩ (show l.length - (k + 1) < l.length - k by omega) ?_
                conv => whnf
                rw [e6, e5]
                rfl
              · conv => whnf
                repeat' (first | (refine brd_t (by first | assumption | omega) ?_; conv => whnf) | (refine brd_f (by first | assumption | omega) ?_; conv => whnf) | (refine ask (by first | assumption | omega) ?_; conv => whnf) | (refine fit64 (by omega) ?_; conv => whnf) | (refine fit (by simp only [kmin, kmax]; omega) ?_; conv => whnf) | (refine br_t (by assumption) ?_; conv => whnf) | (refine br_f (by assumption) ?_; conv => whnf) | (refine get_of (by assumption) ?_; conv => whnf) | (refine get_map (by assumption) ?_; conv => whnf) | (refine brd_t rfl ?_; conv => whnf) | (refine get_of hlast ?_; conv => whnf) | (refine call_eq (hsx) hC hasBody_48 ?_ ?_ ?_; kernel_rfl; kernel_rfl; conv => whnf) | (refine callq_eq (hsx) hC hasBody_48 ?_ ?_ ?_; kernel_rfl; kernel_rfl; conv => whnf) | (refine call_eq (hsuf) hC hasBody_49 ?_ ?_ ?_; kernel_rfl; kernel_rfl; conv => whnf) | (refine callq_eq (hsuf) hC hasBody_49 ?_ ?_ ?_; kernel_rfl; kernel_rfl; conv => whnf) | (refine ask (Nat.le_refl 1) ?_; conv => whnf) | (refine ask (by omega) ?_; conv => whnf) | (refine ask ⟨?_, ?_, ?_⟩ ?_; omega; (show _ + 1 ≤ 9223372036854775807; omega); (show (_ + 1) * 80 ≤ 140737488355328; omega); conv => whnf) | (refine brd (fun h => ?_) (fun h => ?_) <;> conv => whnf) | (refine br (fun h => ?_) (fun h => ?_) <;> conv => whnf) | (refine ret_now hE ?_; conv => whnf) | (intro hlen; conv => whnf))
                refine next_drop [0, 5, 10, 11, 12] [3] (k + 1, o ++ [.mk [] [] (t' ++ tx) []], false) ⟨hlt, by rw [List.length_append]; simp only [List.length_cons, List.length_nil]; omega, plain_add (plain_left hpl2) (.mk [] [] (t' ++ tx) []) (fun _ => ⟨_, rfl⟩), htx4, by rw [← hI, hst, hsp, ho, addTx_text]⟩ (show l.length - (k + 1) < l.length - k by omega) ?_
                conv => whnf
                rw [e6, e5]
                rfl
              · conv => whnf
                repeat' (first | (refine brd_t (by first | assumption | omega) ?_; conv => whnf) | (refine brd_f (by first | assumption | omega) ?_; conv => whnf) | (refine ask (by first | assumption | omega) ?_; conv => whnf) | (refine fit64 (by omega) ?_; conv => whnf) | (refine fit (by simp only [kmin, kmax]; omega) ?_; conv => whnf) | (refine br_t (by assumption) ?_; conv => whnf) | (refine br_f (by assumption) ?_; conv => whnf) | (refine get_of (by assumption) ?_; conv => whnf) | (refine get_map (by assumption) ?_; conv => whnf) | (refine brd_t rfl ?_; conv => whnf) | (refine get_of hlast ?_; conv => whnf) | (refine call_eq (hsx) hC hasBody_48 ?_ ?_ ?_; kernel_rfl; kernel_rfl; conv => whnf) | (refine callq_eq (hsx) hC hasBody_48 ?_ ?_ ?_; kernel_rfl; kernel_rfl; conv => whnf) | (refine call_eq (hsuf) hC hasBody_49 ?_ ?_ ?_; kernel_rfl; kernel_rfl; conv => whnf) | (refine callq_eq (hsuf) hC hasBody_49 ?_ ?_ ?_; kernel_rfl; kernel_rfl; conv => whnf) | (refine ask (Nat.le_refl 1) ?_; conv => whnf) | (refine ask (by omega) ?_; conv => whnf) | (refine ask ⟨?_, ?_, ?_⟩ ?_; omega; (show _ + 1 ≤ 9223372036854775807; omega); (show (_ + 1) * 80 ≤ 140737488355328; omega); conv => whnf) | (refine brd (fun h => ?_) (fun h => ?_) <;> conv => whnf) | (refine br (fun h => ?_) (fun h => ?_) <;> conv => whnf) | (refine ret_now hE ?_; conv => whnf) | (intro hlen; conv => whnf))
                refine next_drop [0, 5, 10, 11, 12] [3] (k + 1, o ++ [.mk [] [] (t' ++ tx) []], true) ⟨hlt, by rw [List.length_append]; simp only [List.length_cons, List.length_nil]; omega, plain_add (plain_left hpl2) (.mk [] [] (t' ++ tx) []) (fun _ => ⟨_, rfl⟩), htx4, by rw [← hI, hst, hsp, ho, addTx_text]⟩ (show l.length - (k + 1) < l.length - k by omega) ?_
                conv => whnf
                rw [e6, e5]
                rfl
            · have hlast : (nodesL out)[0 + ((out.length : Int) - 1).toNat]? = some (.agg [.str n', .lst (a'.map attA), .str t', .lst (nodesL ps')]) := by
                rw [Nat.zero_add, show ((out.length : Int) - 1).toNat = o.length by omega, ho, nodesL_append, List.getElem?_append_right (by rw [nodesL_length]; exact Nat.le_refl _), nodesL_length]
                simp [nodesL, nodeA_mk]
              have hadd : addTx out tx = out ++ [.mk [] [] tx []] := by rw [ho, addTx_elem hn']
              cases ah
              all_goals cases eb
              · conv => whnf
                repeat' (first | (refine brd_t (by first | assumption | omega) ?_; conv => whnf) | (refine brd_f (by first | assumption | omega) ?_; conv => whnf) | (refine ask (by first | assumption | omega) ?_; conv => whnf) | (refine fit64 (by omega) ?_; conv => whnf) | (refine fit (by simp only [kmin, kmax]; omega) ?_; conv => whnf) | (refine br_t (by assumption) ?_; conv => whnf) | (refine br_f (by assumption) ?_; conv => whnf) | (refine get_of (by assumption) ?_; conv => whnf) | (refine get_map (by assumption) ?_; conv => whnf) | (refine brd_t rfl ?_; conv => whnf) | (refine get_of hlast ?_; conv => whnf) | (refine call_eq (hsx) hC hasBody_48 ?_ ?_ ?_; kernel_rfl; kernel_rfl; conv => whnf) | (refine callq_eq (hsx) hC hasBody_48 ?_ ?_ ?_; kernel_rfl; kernel_rfl; conv => whnf) | (refine call_eq (hsuf) hC hasBody_49 ?_ ?_ ?_; kernel_rfl; kernel_rfl; conv => whnf) | (refine callq_eq (hsuf) hC hasBody_49 ?_ ?_ ?_; kernel_rfl; kernel_rfl; conv => whnf) | (refine ask (Nat.le_refl 1) ?_; conv => whnf) | (refine ask (by omega) ?_; conv => whnf) | (refine ask ⟨?_, ?_, ?_⟩ ?_; omega; (show _ + 1 ≤ 9223372036854775807; omega); (show (_ + 1) * 80 ≤ 140737488355328; omega); conv => whnf) | (refine brd (fun h => ?_) (fun h => ?_) <;> conv => whnf) | (refine br (fun h => ?_) (fun h => ?_) <;> conv => whnf) | (refine ret_now hE ?_; conv => whnf) | (intro hlen; conv => whnf))
                refine up_nl 2 rfl (next_drop [0, 5, 10, 11, 12] [3, 4] (k + 1, out ++ [.mk [] [] tx []], false) ⟨hlt, by rw [List.length_append]; simp only [List.length_cons, List.length_nil]; omega, plain_add hpl (.mk [] [] tx []) (fun _ => ⟨tx, rfl⟩), htx3, by rw [← hI, hst, hsp, hadd]⟩ (show l.length - (k + 1) < l.length - k by omega) ?_)
                conv => whnf
                rw [e3, e4]
                rfl
              · conv => whnf
                repeat' (first | (refine brd_t (by first | assumption | omega) ?_; conv => whnf) | (refine brd_f (by first | assumption | omega) ?_; conv => whnf) | (refine ask (by first | assumption | omega) ?_; conv => whnf) | (refine fit64 (by omega) ?_; conv => whnf) | (refine fit (by simp only [kmin, kmax]; omega) ?_; conv => whnf) | (refine br_t (by assumption) ?_; conv => whnf) | (refine br_f (by assumption) ?_; conv => whnf) | (refine get_of (by assumption) ?_; conv => whnf) | (refine get_map (by assumption) ?_; conv => whnf) | (refine brd_t rfl ?_; conv => whnf) | (refine get_of hlast ?_; conv => whnf) | (refine call_eq (hsx) hC hasBody_48 ?_ ?_ ?_; kernel_rfl; kernel_rfl; conv => whnf) | (refine callq_eq (hsx) hC hasBody_48 ?_ ?_ ?_; kernel_rfl; kernel_rfl; conv => whnf) | (refine call_eq (hsuf) hC hasBody_49 ?_ ?_ ?_; kernel_rfl; kernel_rfl; conv => whnf) | (refine callq_eq (hsuf) hC hasBody_49 ?_ ?_ ?_; kernel_rfl; kernel_rfl; conv => whnf) | (refine ask (Nat.le_refl 1) ?_; conv => whnf) | (refine ask (by omega) ?_; conv => whnf) | (refine ask ⟨?_, ?_, ?_⟩ ?_; omega; (show _ + 1 ≤ 9223372036854775807; omega); (show (_ + 1) * 80 ≤ 140737488355328; omega); conv => whnf) | (refine brd (fun h => ?_) (fun h => ?_) <;> conv => whnf) | (refine br (fun h => ?_) (fun h => ?_) <;> conv => whnf) | (refine ret_now hE ?_; conv => whnf) | (intro hlen; conv => whnf))
                refine up_nl 2 rfl (next_drop [0, 5, 10, 11, 12] [3, 4] (k + 1, out ++ [.mk [] [] tx []], true) ⟨hlt, by rw [List.length_append]; simp only [List.length_cons, List.length_nil]; omega, plain_add hpl (.mk [] [] tx []) (fun _ => ⟨tx, rfl⟩), htx3, by rw [← hI, hst, hsp, hadd]⟩ (show l.length - (k + 1) < l.length - k by omega) ?_)
                conv => whnf
                rw [e3, e4]
                rfl
              · conv => whnf
                repeat' (first | (refine brd_t (by first | assumption | omega) ?_; conv => whnf) | (refine brd_f (by first | assumption | omega) ?_; conv => whnf) | (refine ask (by first | assumption | omega) ?_; conv => whnf) | (refine fit64 (by omega) ?_; conv => whnf) | (refine fit (by simp only [kmin, kmax]; omega) ?_; conv => whnf) | (refine br_t (by assumption) ?_; conv => whnf) | (refine br_f (by assumption) ?_; conv => whnf) | (refine get_of (by assumption) ?_; conv => whnf) | (refine get_map (by assumption) ?_; conv => whnf) | (refine brd_t rfl ?_; conv => whnf) | (refine get_of hlast ?_; conv => whnf) | (refine call_eq (hsx) hC hasBody_48 ?_ ?_ ?_; kernel_rfl; kernel_rfl; conv => whnf) | (refine callq_eq (hsx) hC hasBody_48 ?_ ?_ ?_; kernel_rfl; kernel_rfl; conv => whnf) | (refine call_eq (hsuf) hC hasBody_49 ?_ ?_ ?_; kernel_rfl; kernel_rfl; conv => whnf) | (refine callq_eq (hsuf) hC hasBody_49 ?_ ?_ ?_; kernel_rfl; kernel_rfl; conv => whnf) | (refine ask (Nat.le_refl 1) ?_; conv => whnf) | (refine ask (by omega) ?_; conv => whnf) | (refine ask ⟨?_, ?_, ?_⟩ ?_; omega; (show _ + 1 ≤ 9223372036854775807; omega); (show (_ + 1) * 80 ≤ 140737488355328; omega); conv => whnf) | (refine brd (fun h => ?_) (fun h => ?_) <;> conv => whnf) | (refine br (fun h => ?_) (fun h => ?_) <;> conv => whnf) | (refine ret_now hE ?_; conv => whnf) | (intro hlen; conv => whnf))
                refine up_nl 2 rfl (next_drop [0, 5, 10, 11, 12] [3, 4] (k + 1, out ++ [.mk [] [] tx []], false) ⟨hlt, by rw [List.length_append]; simp only [List.length_cons, List.length_nil]; omega, plain_add hpl (.mk [] [] tx []) (fun _ => ⟨tx, rfl⟩), htx3, by rw [← hI, hst, hsp, hadd]⟩ (show l.length - (k + 1) < l.length - k by omega) ?_)
                conv => whnf
                rw [e3, e4]
                rfl
              · conv => whnf
                repeat' (first | (refine brd_t (by first | assumption | omega) ?_; conv => whnf) | (refine brd_f (by first | assumption | omega) ?_; conv => whnf) | (refine ask (by first | assumption | omega) ?_; conv => whnf) | (refine fit64 (by omega) ?_; conv => whnf) | (refine fit (by simp only [kmin, kmax]; omega) ?_; conv => whnf) | (refine br_t (by assumption) ?_; conv => whnf) | (refine br_f (by assumption) ?_; conv => whnf) | (refine get_of (by assumption) ?_; conv => whnf) | (refine get_map (by assumption) ?_; conv => whnf) | (refine brd_t rfl ?_; conv => whnf) | (refine get_of hlast ?_; conv => whnf) | (refine call_eq (hsx) hC hasBody_48 ?_ ?_ ?_; kernel_rfl; kernel_rfl; conv => whnf) | (refine callq_eq (hsx) hC hasBody_48 ?_ ?_ ?_; kernel_rfl; kernel_rfl; conv => whnf) | (refine call_eq (hsuf) hC hasBody_49 ?_ ?_ ?_; kernel_rfl; kernel_rfl; conv => whnf) | (refine callq_eq (hsuf) hC hasBody_49 ?_ ?_ ?_; kernel_rfl; kernel_rfl; conv => whnf) | (refine ask (Nat.le_refl 1) ?_; conv => whnf) | (refine ask (by omega) ?_; conv => whnf) | (refine ask ⟨?_, ?_, ?_⟩ ?_; omega; (show _ + 1 ≤ 9223372036854775807; omega); (show (_ + 1) * 80 ≤ 140737488355328; omega); conv => whnf) | (refine brd (fun h => ?_) (fun h => ?_) <;> conv => whnf) | (refine br (fun h => ?_) (fun h => ?_) <;> conv => whnf) | (refine ret_now hE ?_; conv => whnf) | (intro hlen; conv => whnf))
                refine up_nl 2 rfl (next_drop [0, 5, 10, 11, 12] [3, 4] (k + 1, out ++ [.mk [] [] tx []], true) ⟨hlt, by rw [List.length_append]; simp only [List.length_cons, List.length_nil]; omega, plain_add hpl (.mk [] [] tx []) (fun _ => ⟨tx, rfl⟩), htx3, by rw [← hI, hst, hsp, hadd]⟩ (show l.length - (k + 1) < l.length - k by omega) ?_)
                conv => whnf
                rw [e3, e4]
                rfl
      · have htx2 : ∀ ps', ∀ x ∈ out ++ [Nd.mk n a t ps'], x.text.length ≤ szL (l.take (k + 1)) := fun ps' x hx => by
          rcases List.mem_append.1 hx with hx | hx
          · exact htx1 x hx
          · simp at hx
            subst hx
            show t.length ≤ _
            omega
        have e4 : ∀ ps', killL 4 (killL 3 (killL 2 (List.take out.length (List.drop 0 (nodesL out)) ++ List.take 1 (List.drop 0 [V.agg [.str n, .lst (a.map attA), .str t, .lst (nodesL ps')]])))) = nodesL (out ++ [.mk n a t ps']) := fun ps' => by
          have : List.take out.length (List.drop 0 (nodesL out)) ++ List.take 1 (List.drop 0 [V.agg [.str n, .lst (a.map attA), .str t, .lst (nodesL ps')]]) = nodesL (out ++ [.mk n a t ps']) := by
            rw [htk, nodesL_append]
            simp [nodesL, nodeA_mk]
          rw [this, kill_nodes, kill_nodes, kill_nodes]
        have e3 : ∀ ps', out.length + (List.take 1 (List.drop 0 [V.agg [.str n, .lst (a.map attA), .str t, .lst (nodesL ps')]])).length = (out ++ [Nd.mk n a t ps']).length := fun ps' => by simp
        cases hbk : decide (n ∈ blockL) with
        | true =>
          rw [hbk] at hbl
          cases ah with
          | true =>
            have ihq := ih (szL qs) (by omega) qs true (Nat.le_refl _) (by omega)
            generalize hr : spL qs [] true = res at ihq
            obtain ⟨ps', ah2⟩ := res
            simp only at ihq
            have e4 := e4 ps'
            have e3 := e3 ps'
            cases ah2 with
            | true =>
              conv => whnf
              repeat' (first | (refine brd_t (by first | assumption | omega) ?_; conv => whnf) | (refine brd_f (by first | assumption | omega) ?_; conv => whnf) | (refine ask (by first | assumption | omega) ?_; conv => whnf) | (refine fit64 (by omega) ?_; conv => whnf) | (refine fit (by simp only [kmin, kmax]; omega) ?_; conv => whnf) | (refine br_t (by assumption) ?_; conv => whnf) | (refine br_f (by assumption) ?_; conv => whnf) | (refine get_of (by assumption) ?_; conv => whnf) | (refine get_map (by assumption) ?_; conv => whnf) | (refine call_eq (hbl) hC hasBody_46 ?_ ?_ ?_; kernel_rfl; kernel_rfl; conv => whnf) | (refine callq_eq (hbl) hC hasBody_46 ?_ ?_ ?_; kernel_rfl; kernel_rfl; conv => whnf) | (refine call_eq (hcl) hC hasBody_47 ?_ ?_ ?_; kernel_rfl; kernel_rfl; conv => whnf) | (refine callq_eq (hcl) hC hasBody_47 ?_ ?_ ?_; kernel_rfl; kernel_rfl; conv => whnf) | (refine call_mth ihq hC hasBody_29 0 rfl ⟨trivial, trivial⟩ trivial rfl ⟨⟨trivial, trivial⟩, trivial⟩ ⟨⟨trivial, trivial⟩, trivial⟩ ?_; conv => whnf) | (refine ask (Nat.le_refl 1) ?_; conv => whnf) | (refine ask ⟨?_, ?_, ?_⟩ ?_; omega; (show out.length + 1 ≤ 9223372036854775807; omega); (show (out.length + 1) * 80 ≤ 140737488355328; omega); conv => whnf) | (refine brd (fun h => ?_) (fun h => ?_) <;> conv => whnf) | (refine br (fun h => ?_) (fun h => ?_) <;> conv => whnf) | (refine ret_now hE ?_; conv => whnf) | (intro hlen; conv => whnf))
              refine next_drop [0, 5, 10, 11, 12] [3, 4] (k + 1, out ++ [.mk n a t ps'], true) ⟨hlt, by rw [List.length_append]; simp only [List.length_cons, List.length_nil]; omega, plain_add hpl (.mk n a t ps') (fun h => absurd h hn), htx2 ps', ?_⟩ (show l.length - (k + 1) < l.length - k by omega) ?_
              · rw [← hI, hst, spN, if_neg hn, hbk]
                simp only [Bool.or_true, Bool.or_false]
                rw [hr]
              · conv => whnf
                rw [e4, e3]
                rfl
            | false =>
              conv => whnf
              repeat' (first | (refine brd_t (by first | assumption | omega) ?_; conv => whnf) | (refine brd_f (by first | assumption | omega) ?_; conv => whnf) | (refine ask (by first | assumption | omega) ?_; conv => whnf) | (refine fit64 (by omega) ?_; conv => whnf) | (refine fit (by simp only [kmin, kmax]; omega) ?_; conv => whnf) | (refine br_t (by assumption) ?_; conv => whnf) | (refine br_f (by assumption) ?_; conv => whnf) | (refine get_of (by assumption) ?_; conv => whnf) | (refine get_map (by assumption) ?_; conv => whnf) | (refine call_eq (hbl) hC hasBody_46 ?_ ?_ ?_; kernel_rfl; kernel_rfl; conv => whnf) | (refine callq_eq (hbl) hC hasBody_46 ?_ ?_ ?_; kernel_rfl; kernel_rfl; conv => whnf) | (refine call_eq (hcl) hC hasBody_47 ?_ ?_ ?_; kernel_rfl; kernel_rfl; conv => whnf) | (refine callq_eq (hcl) hC hasBody_47 ?_ ?_ ?_; kernel_rfl; kernel_rfl; conv => whnf) | (refine call_mth ihq hC hasBody_29 0 rfl ⟨trivial, trivial⟩ trivial rfl ⟨⟨trivial, trivial⟩, trivial⟩ ⟨⟨trivial, trivial⟩, trivial⟩ ?_; conv => whnf) | (refine ask (Nat.le_refl 1) ?_; conv => whnf) | (refine ask ⟨?_, ?_, ?_⟩ ?_; omega; (show out.length + 1 ≤ 9223372036854775807; omega); (show (out.length + 1) * 80 ≤ 140737488355328; omega); conv => whnf) | (refine brd (fun h => ?_) (fun h => ?_) <;> conv => whnf) | (refine br (fun h => ?_) (fun h => ?_) <;> conv => whnf) | (refine ret_now hE ?_; conv => whnf) | (intro hlen; conv => whnf))
              refine next_drop [0, 5, 10, 11, 12] [3, 4] (k + 1, out ++ [.mk n a t ps'], true) ⟨hlt, by rw [List.length_append]; simp only [List.length_cons, List.length_nil]; omega, plain_add hpl (.mk n a t ps') (fun h => absurd h hn), htx2 ps', ?_⟩ (show l.length - (k + 1) < l.length - k by omega) ?_
              · rw [← hI, hst, spN, if_neg hn, hbk]
                simp only [Bool.or_true, Bool.or_false]
                rw [hr]
              · conv => whnf
                rw [e4, e3]
                rfl
          | false =>
            have ihq := ih (szL qs) (by omega) qs true (Nat.le_refl _) (by omega)
            generalize hr : spL qs [] true = res at ihq
            obtain ⟨ps', ah2⟩ := res
            simp only at ihq
            have e4 := e4 ps'
            have e3 := e3 ps'
            cases ah2 with
            | true =>
              conv => whnf
              repeat' (first | (refine brd_t (by first | assumption | omega) ?_; conv => whnf) | (refine brd_f (by first | assumption | omega) ?_; conv => whnf) | (refine ask (by first | assumption | omega) ?_; conv => whnf) | (refine fit64 (by omega) ?_; conv => whnf) | (refine fit (by simp only [kmin, kmax]; omega) ?_; conv => whnf) | (refine br_t (by assumption) ?_; conv => whnf) | (refine br_f (by assumption) ?_; conv => whnf) | (refine get_of (by assumption) ?_; conv => whnf) | (refine get_map (by assumption) ?_; conv => whnf) | (refine call_eq (hbl) hC hasBody_46 ?_ ?_ ?_; kernel_rfl; kernel_rfl; conv => whnf) | (refine callq_eq (hbl) hC hasBody_46 ?_ ?_ ?_; kernel_rfl; kernel_rfl; conv => whnf) | (refine call_eq (hcl) hC hasBody_47 ?_ ?_ ?_; kernel_rfl; kernel_rfl; conv => whnf) | (refine callq_eq (hcl) hC hasBody_47 ?_ ?_ ?_; kernel_rfl; kernel_rfl; conv => whnf) | (refine call_mth ihq hC hasBody_29 0 rfl ⟨trivial, trivial⟩ trivial rfl ⟨⟨trivial, trivial⟩, trivial⟩ ⟨⟨trivial, trivial⟩, trivial⟩ ?_; conv => whnf) | (refine ask (Nat.le_refl 1) ?_; conv => whnf) | (refine ask ⟨?_, ?_, ?_⟩ ?_; omega; (show out.length + 1 ≤ 9223372036854775807; omega); (show (out.length + 1) * 80 ≤ 140737488355328; omega); conv => whnf) | (refine brd (fun h => ?_) (fun h => ?_) <;> conv => whnf) | (refine br (fun h => ?_) (fun h => ?_) <;> conv => whnf) | (refine ret_now hE ?_; conv => whnf) | (intro hlen; conv => whnf))
              refine next_drop [0, 5, 10, 11, 12] [3, 4] (k + 1, out ++ [.mk n a t ps'], true) ⟨hlt, by rw [List.length_append]; simp only [List.length_cons, List.length_nil]; omega, plain_add hpl (.mk n a t ps') (fun h => absurd h hn), htx2 ps', ?_⟩ (show l.length - (k + 1) < l.length - k by omega) ?_
              · rw [← hI, hst, spN, if_neg hn, hbk]
                simp only [Bool.or_true, Bool.or_false]
                rw [hr]
              · conv => whnf
                rw [e4, e3]
                rfl
            | false =>
              conv => whnf
              repeat' (first | (refine brd_t (by first | assumption | omega) ?_; conv => whnf) | (refine brd_f (by first | assumption | omega) ?_; conv => whnf) | (refine ask (by first | assumption | omega) ?_; conv => whnf) | (refine fit64 (by omega) ?_; conv => whnf) | (refine fit (by simp only [kmin, kmax]; omega) ?_; conv => whnf) | (refine br_t (by assumption) ?_; conv => whnf) | (refine br_f (by assumption) ?_; conv => whnf) | (refine get_of (by assumption) ?_; conv => whnf) | (refine get_map (by assumption) ?_; conv => whnf) | (refine call_eq (hbl) hC hasBody_46 ?_ ?_ ?_; kernel_rfl; kernel_rfl; conv => whnf) | (refine callq_eq (hbl) hC hasBody_46 ?_ ?_ ?_; kernel_rfl; kernel_rfl; conv => whnf) | (refine call_eq (hcl) hC hasBody_47 ?_ ?_ ?_; kernel_rfl; kernel_rfl; conv => whnf) | (refine callq_eq (hcl) hC hasBody_47 ?_ ?_ ?_; kernel_rfl; kernel_rfl; conv => whnf) | (refine call_mth ihq hC hasBody_29 0 rfl ⟨trivial, trivial⟩ trivial rfl ⟨⟨trivial, trivial⟩, trivial⟩ ⟨⟨trivial, trivial⟩, trivial⟩ ?_; conv => whnf) | (refine ask (Nat.le_refl 1) ?_; conv => whnf) | (refine ask ⟨?_, ?_, ?_⟩ ?_; omega; (show out.length + 1 ≤ 9223372036854775807; omega); (show (out.length + 1) * 80 ≤ 140737488355328; omega); conv => whnf) | (refine brd (fun h => ?_) (fun h => ?_) <;> conv => whnf) | (refine br (fun h => ?_) (fun h => ?_) <;> conv => whnf) | (refine ret_now hE ?_; conv => whnf) | (intro hlen; conv => whnf))
              refine next_drop [0, 5, 10, 11, 12] [3, 4] (k + 1, out ++ [.mk n a t ps'], true) ⟨hlt, by rw [List.length_append]; simp only [List.length_cons, List.length_nil]; omega, plain_add hpl (.mk n a t ps') (fun h => absurd h hn), htx2 ps', ?_⟩ (show l.length - (k + 1) < l.length - k by omega) ?_
              · rw [← hI, hst, spN, if_neg hn, hbk]
                simp only [Bool.or_true, Bool.or_false]
                rw [hr]
              · conv => whnf
                rw [e4, e3]
                rfl
        | false =>
          rw [hbk] at hbl
          cases ah with
          | true =>
            have ihq := ih (szL qs) (by omega) qs true (Nat.le_refl _) (by omega)
            generalize hr : spL qs [] true = res at ihq
            obtain ⟨ps', ah2⟩ := res
            simp only at ihq
            have e4 := e4 ps'
            have e3 := e3 ps'
            cases ah2 with
            | true =>
              conv => whnf
              repeat' (first | (refine brd_t (by first | assumption | omega) ?_; conv => whnf) | (refine brd_f (by first | assumption | omega) ?_; conv => whnf) | (refine ask (by first | assumption | omega) ?_; conv => whnf) | (refine fit64 (by omega) ?_; conv => whnf) | (refine fit (by simp only [kmin, kmax]; omega) ?_; conv => whnf) | (refine br_t (by assumption) ?_; conv => whnf) | (refine br_f (by assumption) ?_; conv => whnf) | (refine get_of (by assumption) ?_; conv => whnf) | (refine get_map (by assumption) ?_; conv => whnf) | (refine call_eq (hbl) hC hasBody_46 ?_ ?_ ?_; kernel_rfl; kernel_rfl; conv => whnf) | (refine callq_eq (hbl) hC hasBody_46 ?_ ?_ ?_; kernel_rfl; kernel_rfl; conv => whnf) | (refine call_eq (hcl) hC hasBody_47 ?_ ?_ ?_; kernel_rfl; kernel_rfl; conv => whnf) | (refine callq_eq (hcl) hC hasBody_47 ?_ ?_ ?_; kernel_rfl; kernel_rfl; conv => whnf) | (refine call_mth ihq hC hasBody_29 0 rfl ⟨trivial, trivial⟩ trivial rfl ⟨⟨trivial, trivial⟩, trivial⟩ ⟨⟨trivial, trivial⟩, trivial⟩ ?_; conv => whnf) | (refine ask (Nat.le_refl 1) ?_; conv => whnf) | (refine ask ⟨?_, ?_, ?_⟩ ?_; omega; (show out.length + 1 ≤ 9223372036854775807; omega); (show (out.length + 1) * 80 ≤ 140737488355328; omega); conv => whnf) | (refine brd (fun h => ?_) (fun h => ?_) <;> conv => whnf) | (refine br (fun h => ?_) (fun h => ?_) <;> conv => whnf) | (refine ret_now hE ?_; conv => whnf) | (intro hlen; conv => whnf))
              refine next_drop [0, 5, 10, 11, 12] [3, 4] (k + 1, out ++ [.mk n a t ps'], true) ⟨hlt, by rw [List.length_append]; simp only [List.length_cons, List.length_nil]; omega, plain_add hpl (.mk n a t ps') (fun h => absurd h hn), htx2 ps', ?_⟩ (show l.length - (k + 1) < l.length - k by omega) ?_
              · rw [← hI, hst, spN, if_neg hn, hbk]
                simp only [Bool.or_true, Bool.or_false]
                rw [hr]
              · conv => whnf
                rw [e4, e3]
                rfl
            | false =>
              conv => whnf
              repeat' (first | (refine brd_t (by first | assumption | omega) ?_; conv => whnf) | (refine brd_f (by first | assumption | omega) ?_; conv => whnf) | (refine ask (by first | assumption | omega) ?_; conv => whnf) | (refine fit64 (by omega) ?_; conv => whnf) | (refine fit (by simp only [kmin, kmax]; omega) ?_; conv => whnf) | (refine br_t (by assumption) ?_; conv => whnf) | (refine br_f (by assumption) ?_; conv => whnf) | (refine get_of (by assumption) ?_; conv => whnf) | (refine get_map (by assumption) ?_; conv => whnf) | (refine call_eq (hbl) hC hasBody_46 ?_ ?_ ?_; kernel_rfl; kernel_rfl; conv => whnf) | (refine callq_eq (hbl) hC hasBody_46 ?_ ?_ ?_; kernel_rfl; kernel_rfl; conv => whnf) | (refine call_eq (hcl) hC hasBody_47 ?_ ?_ ?_; kernel_rfl; kernel_rfl; conv => whnf) | (refine callq_eq (hcl) hC hasBody_47 ?_ ?_ ?_; kernel_rfl; kernel_rfl; conv => whnf) | (refine call_mth ihq hC hasBody_29 0 rfl ⟨trivial, trivial⟩ trivial rfl ⟨⟨trivial, trivial⟩, trivial⟩ ⟨⟨trivial, trivial⟩, trivial⟩ ?_; conv => whnf) | (refine ask (Nat.le_refl 1) ?_; conv => whnf) | (refine ask ⟨?_, ?_, ?_⟩ ?_; omega; (show out.length + 1 ≤ 9223372036854775807; omega); (show (out.length + 1) * 80 ≤ 140737488355328; omega); conv => whnf) | (refine brd (fun h => ?_) (fun h => ?_) <;> conv => whnf) | (refine br (fun h => ?_) (fun h => ?_) <;> conv => whnf) | (refine ret_now hE ?_; conv => whnf) | (intro hlen; conv => whnf))
              refine next_drop [0, 5, 10, 11, 12] [3, 4] (k + 1, out ++ [.mk n a t ps'], false) ⟨hlt, by rw [List.length_append]; simp only [List.length_cons, List.length_nil]; omega, plain_add hpl (.mk n a t ps') (fun h => absurd h hn), htx2 ps', ?_⟩ (show l.length - (k + 1) < l.length - k by omega) ?_
              · rw [← hI, hst, spN, if_neg hn, hbk]
                simp only [Bool.or_true, Bool.or_false]
                rw [hr]
              · conv => whnf
                rw [e4, e3]
                rfl
          | false =>
            have ihq := ih (szL qs) (by omega) qs false (Nat.le_refl _) (by omega)
            generalize hr : spL qs [] false = res at ihq
            obtain ⟨ps', ah2⟩ := res
            simp only at ihq
            have e4 := e4 ps'
            have e3 := e3 ps'
            cases ah2 with
            | true =>
              conv => whnf
              repeat' (first | (refine brd_t (by first | assumption | omega) ?_; conv => whnf) | (refine brd_f (by first | assumption | omega) ?_; conv => whnf) | (refine ask (by first | assumption | omega) ?_; conv => whnf) | (refine fit64 (by omega) ?_; conv => whnf) | (refine fit (by simp only [kmin, kmax]; omega) ?_; conv => whnf) | (refine br_t (by assumption) ?_; conv => whnf) | (refine br_f (by assumption) ?_; conv => whnf) | (refine get_of (by assumption) ?_; conv => whnf) | (refine get_map (by assumption) ?_; conv => whnf) | (refine call_eq (hbl) hC hasBody_46 ?_ ?_ ?_; kernel_rfl; kernel_rfl; conv => whnf) | (refine callq_eq (hbl) hC hasBody_46 ?_ ?_ ?_; kernel_rfl; kernel_rfl; conv => whnf) | (refine call_eq (hcl) hC hasBody_47 ?_ ?_ ?_; kernel_rfl; kernel_rfl; conv => whnf) | (refine callq_eq (hcl) hC hasBody_47 ?_ ?_ ?_; kernel_rfl; kernel_rfl; conv => whnf) | (refine call_mth ihq hC hasBody_29 0 rfl ⟨trivial, trivial⟩ trivial rfl ⟨⟨trivial, trivial⟩, trivial⟩ ⟨⟨trivial, trivial⟩, trivial⟩ ?_; conv => whnf) | (refine ask (Nat.le_refl 1) ?_; conv => whnf) | (refine ask ⟨?_, ?_, ?_⟩ ?_; omega; (show out.length + 1 ≤ 9223372036854775807; omega); (show (out.length + 1) * 80 ≤ 140737488355328; omega); conv => whnf) | (refine brd (fun h => ?_) (fun h => ?_) <;> conv => whnf) | (refine br (fun h => ?_) (fun h => ?_) <;> conv => whnf) | (refine ret_now hE ?_; conv => whnf) | (intro hlen; conv => whnf))
              refine next_drop [0, 5, 10, 11, 12] [3, 4] (k + 1, out ++ [.mk n a t ps'], true) ⟨hlt, by rw [List.length_append]; simp only [List.length_cons, List.length_nil]; omega, plain_add hpl (.mk n a t ps') (fun h => absurd h hn), htx2 ps', ?_⟩ (show l.length - (k + 1) < l.length - k by omega) ?_
              · rw [← hI, hst, spN, if_neg hn, hbk]
                simp only [Bool.or_true, Bool.or_false]
                rw [hr]
              · conv => whnf
                rw [e4, e3]
                rfl
            | false =>
              conv => whnf
              repeat' (first | (refine brd_t (by first | assumption | omega) ?_; conv => whnf) | (refine brd_f (by first | assumption | omega) ?_; conv => whnf) | (refine ask (by first | assumption | omega) ?_; conv => whnf) | (refine fit64 (by omega) ?_; conv => whnf) | (refine fit (by simp only [kmin, kmax]; omega) ?_; conv => whnf) | (refine br_t (by assumption) ?_; conv => whnf) | (refine br_f (by assumption) ?_; conv => whnf) | (refine get_of (by assumption) ?_; conv => whnf) | (refine get_map (by assumption) ?_; conv => whnf) | (refine call_eq (hbl) hC hasBody_46 ?_ ?_ ?_; kernel_rfl; kernel_rfl; conv => whnf) | (refine callq_eq (hbl) hC hasBody_46 ?_ ?_ ?_; kernel_rfl; kernel_rfl; conv => whnf) | (refine call_eq (hcl) hC hasBody_47 ?_ ?_ ?_; kernel_rfl; kernel_rfl; conv => whnf) | (refine callq_eq (hcl) hC hasBody_47 ?_ ?_ ?_; kernel_rfl; kernel_rfl; conv => whnf) | (refine call_mth ihq hC hasBody_29 0 rfl ⟨trivial, trivial⟩ trivial rfl ⟨⟨trivial, trivial⟩, trivial⟩ ⟨⟨trivial, trivial⟩, trivial⟩ ?_; conv => whnf) | (refine ask (Nat.le_refl 1) ?_; conv => whnf) | (refine ask ⟨?_, ?_, ?_⟩ ?_; omega; (show out.length + 1 ≤ 9223372036854775807; omega); (show (out.length + 1) * 80 ≤ 140737488355328; omega); conv => whnf) | (refine brd (fun h => ?_) (fun h => ?_) <;> conv => whnf) | (refine br (fun h => ?_) (fun h => ?_) <;> conv => whnf) | (refine ret_now hE ?_; conv => whnf) | (intro hlen; conv => whnf))
              refine next_drop [0, 5, 10, 11, 12] [3, 4] (k + 1, out ++ [.mk n a t ps'], false) ⟨hlt, by rw [List.length_append]; simp only [List.length_cons, List.length_nil]; omega, plain_add hpl (.mk n a t ps') (fun h => absurd h hn), htx2 ps', ?_⟩ (show l.length - (k + 1) < l.length - k by omega) ?_
              · rw [← hI, hst, spN, if_neg hn, hbk]
                simp only [Bool.or_true, Bool.or_false]
                rw [hr]
              · conv => whnf
                rw [e4, e3]
                rfl
    · conv => whnf
      repeat' (first | (refine brd_t (by first | assumption | omega) ?_; conv => whnf) | (refine brd_f (by first | assumption | omega) ?_; conv => whnf) | (refine ask (by first | assumption | omega) ?_; conv => whnf) | (refine fit64 (by omega) ?_; conv => whnf) | (refine fit (by simp only [kmin, kmax]; omega) ?_; conv => whnf) | (refine br_t (by assumption) ?_; conv => whnf) | (refine br_f (by assumption) ?_; conv => whnf) | (refine get_of (by assumption) ?_; conv => whnf) | (refine get_map (by assumption) ?_; conv => whnf) | (refine brd (fun h => ?_) (fun h => ?_) <;> conv => whnf) | (refine br (fun h => ?_) (fun h => ?_) <;> conv => whnf) | (refine ret_now hE ?_; conv => whnf) | (intro hlen; conv => whnf))
      rw [spL_end (by omega)] at hI
      refine hret_up (up_frzK 2 4 [] rfl (nodesL_nr _) rfl hom.symm rfl (up_here (hret_now hE ?_)))
      conv => whnf
      refine ⟨rfl, rfl, ?_, ?_⟩
      · rw [← hI]
      · rw [← hI]
        rfl
theorem space_nodes (l : List Nd) (hsz : szL l ≤ 1048576) : Fn1 Try.prog 11 [.lst (nodesL l)] (fun r => r = .lst (nodesL (spL l [] true).1)) := by
  have h := sp_nodes 1048576 l true hsz (Nat.le_refl _)
  refine fn1E (T := Try.tt) Try.func11 rfl tt_all follows_all ?_ ?_ fun C hC hE => ?_
  · kernel_rfl
  · exact Nat.le_of_ble_eq_true (by kernel_rfl)
  conv => whnf
  repeat' (first | (refine brd_t (by first | assumption | omega) ?_; conv => whnf) | (refine brd_f (by first | assumption | omega) ?_; conv => whnf) | (refine ask (by first | assumption | omega) ?_; conv => whnf) | (refine fit64 (by omega) ?_; conv => whnf) | (refine fit (by simp only [kmin, kmax]; omega) ?_; conv => whnf) | (refine br_t (by assumption) ?_; conv => whnf) | (refine br_f (by assumption) ?_; conv => whnf) | (refine get_of (by assumption) ?_; conv => whnf) | (refine get_map (by assumption) ?_; conv => whnf) | (refine call_mth h hC hasBody_29 0 rfl ⟨trivial, trivial⟩ trivial rfl ⟨⟨trivial, trivial⟩, trivial⟩ ⟨⟨trivial, trivial⟩, trivial⟩ ?_; conv => whnf) | (refine brd (fun h => ?_) (fun h => ?_) <;> conv => whnf) | (refine br (fun h => ?_) (fun h => ?_) <;> conv => whnf) | (refine ret_now hE ?_; conv => whnf) | (intro hlen; conv => whnf))
  exact ⟨rfl, rfl⟩
end Go.Proofs.Yteekfmflecgjmaa
