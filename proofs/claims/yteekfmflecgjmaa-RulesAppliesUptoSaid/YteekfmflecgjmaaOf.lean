/- rules.Joined, rules.Of, walked. No conditions. -/
import Derived.Test.YteekfmflecgjmaaOfLaw
set_option linter.unusedSimpArgs false
set_option linter.unusedVariables false
set_option maxRecDepth 100000
namespace Go.Proofs.Yteekfmflecgjmaa
open Go.RowKit

/-- What a hidden argument was is forgotten. -/
theorem up_hid {C : Ctx} {K : ES → Prop} (p : Nat) {vs : List Value} {l : List V} {n : Nat} {u : List (Nat × V)} {h : List (Option Ob)} (ho : h[p]? = some (some (.hid vs l))) (hk : UpE C K ⟨n, u, h.set p (some (.hid vs (l.map fun _ => V.any)))⟩) : UpE C K ⟨n, u, h⟩ := by
  refine ⟨up_of_rel (fun a w hr => ?_) hk.out⟩
  obtain ⟨I, bl, hp⟩ := hr.parts
  have hpl : p < h.length := (List.getElem?_eq_some_iff.1 ho).1
  refine RP.rel (I := I) (bl := bl) ⟨hp.defers, hp.env, ⟨fun id o hoo => ?_, fun id i hi => ?_, hp.heap.apart, hp.heap.own, hp.heap.imm, hp.heap.kept⟩⟩
  · have hoo : (h.set p (some (.hid vs (l.map fun _ => V.any))))[id]? = some (some o) := hoo
    by_cases e : id = p
    · subst e
      rw [List.getElem?_set_self hpl] at hoo
      simp only [Option.some.injEq] at hoo
      subst hoo
      obtain ⟨h1, h2, h3⟩ := hp.heap.obj id _ ho
      refine ⟨h1, by rw [List.length_map]; exact h2, fun i v x hv hx => ?_⟩
      rw [List.getElem?_map] at hx
      cases hl : l[i]? with
      | none => rw [hl] at hx; cases hx
      | some y => rw [hl] at hx; cases hx; exact .pure _ _ (.any _)
    · rw [List.getElem?_set_ne (Ne.symm e)] at hoo
      exact hp.heap.obj id o hoo
  · show ∃ o, (h.set p (some (.hid vs (l.map fun _ => V.any))))[id]? = some (some o)
    by_cases e : id = p
    · subst e; exact ⟨_, List.getElem?_set_self hpl⟩
    · rw [List.getElem?_set_ne (Ne.symm e)]
      exact hp.heap.live id i hi
set_option maxHeartbeats 8000000 in
theorem h_joined (out0 more : List Nd) (hsz : cL out0 + cL more ≤ 16777216) : HFn Try.prog 55 [.sl 0 0 out0.length, .lst (nodesL more)] [.row 4 (nodesL out0)] []
    (fun r o => r = .sl 0 0 (joinL out0 more).length ∧ o = [.row 4 (nodesL (joinL out0 more))]) := by
  have hlm := nodesL_length more
  refine hfnE (T := Try.tt) Try.func55 rfl tt_all follows_all ?_ ?_ fun C vs hC hE => ?_
  · kernel_rfl
  · exact Nat.le_of_ble_eq_true (by kernel_rfl)
  conv => whnf
  repeat' (first | (refine brd_t (by first | assumption | omega) ?_; conv => whnf) | (refine brd_f (by first | assumption | omega) ?_; conv => whnf) | (refine ask (by first | assumption | omega) ?_; conv => whnf) | (refine fit64 (by omega) ?_; conv => whnf) | (refine fit (by simp only [kmin, kmax]; omega) ?_; conv => whnf) | (refine br_t (by assumption) ?_; conv => whnf) | (refine br_f (by assumption) ?_; conv => whnf) | (refine get_of (by assumption) ?_; conv => whnf) | (refine get_map (by assumption) ?_; conv => whnf) | (refine brd (fun h => ?_) (fun h => ?_) <;> conv => whnf) | (refine br (fun h => ?_) (fun h => ?_) <;> conv => whnf) | (refine ret_now hE ?_; conv => whnf) | (intro hlen; conv => whnf))
  refine loopE (fun ((k, out) : Nat × List Nd) => ⟨49, [(0, .sl 0 0 out.length), (8, .lst (nodesL more)), (9, .int .i64 (nodesL more).length), (10, .int .i64 k)], [some (.row 4 (nodesL out)), some (.hid vs [.any, .any])]⟩)
    (fun (k, out) => k ≤ more.length ∧ out = joinL out0 (more.take k)) (fun (k, _) => more.length - k) (0, out0) hE ?_ ?_ ⟨Nat.zero_le _, rfl⟩ ?_
  · kernel_rfl
  · exact up_hid 1 rfl (at_keep [0, 8, 9, 10] rfl)
  rintro ⟨k, out⟩ ⟨hk, hout⟩
  have hom := nodesL_length out
  have hcl : cL out ≤ cL out0 + cL (more.take k) := by rw [hout]; exact cL_joinL _ _
  have hcl2 := cL_take_le more k
  have hol := cL_len out
  have htk : List.take out.length (List.drop 0 (nodesL out)) = nodesL out := by rw [List.drop_zero]; exact List.take_of_length_le (by omega)
  by_cases hlt : k < more.length
  · obtain ⟨n, a, t, qs, hx, hx'⟩ := node_at hlt
    have hst := joinL_step (out := out0) hx
    rw [← hout] at hst
    have hct := cL_take hx
    have hct2 := cL_take_le more (k + 1)
    change cL (more.take (k + 1)) = cL (more.take k) + (1 + t.length) at hct
    have e3 : out.length + (List.take 1 (List.drop 0 [V.agg [.str n, .lst (a.map attA), .str t, .lst (nodesL qs)]])).length = (out ++ [Nd.mk n a t qs]).length := by simp
    have e4 : killL 3 (killL 2 (killL 0 (List.take out.length (List.drop 0 (nodesL out)) ++ List.take 1 (List.drop 0 [V.agg [.str n, .lst (a.map attA), .str t, .lst (nodesL qs)]])))) = nodesL (out ++ [.mk n a t qs]) := by
      rw [htk, show nodesL out ++ List.take 1 (List.drop 0 [V.agg [.str n, .lst (a.map attA), .str t, .lst (nodesL qs)]]) = nodesL (out ++ [.mk n a t qs]) by rw [nodesL_append]; simp [nodesL, nodeA_mk], kill_nodes, kill_nodes, kill_nodes]
    by_cases hn : n = []
    · rcases last_cases out with ho | ⟨o, x, ho⟩
      · have hz : out.length = 0 := by rw [ho]; rfl
        rw [show addN out (.mk n a t qs) = out ++ [.mk n a t qs] by rw [ho, addN_nil]; rfl] at hst
        conv => whnf
        repeat' (first | (refine brd_t (by first | assumption | omega) ?_; conv => whnf) | (refine brd_f (by first | assumption | omega) ?_; conv => whnf) | (refine ask (by first | assumption | omega) ?_; conv => whnf) | (refine fit64 (by omega) ?_; conv => whnf) | (refine fit (by simp only [kmin, kmax]; omega) ?_; conv => whnf) | (refine br_t (by assumption) ?_; conv => whnf) | (refine br_f (by assumption) ?_; conv => whnf) | (refine get_of (by assumption) ?_; conv => whnf) | (refine get_map (by assumption) ?_; conv => whnf) | (refine ask (Nat.le_refl 1) ?_; conv => whnf) | (refine ask (by omega) ?_; conv => whnf) | (refine ask ⟨?_, ?_, ?_⟩ ?_; omega; (show _ + 1 ≤ 9223372036854775807; omega); (show (_ + 1) * 80 ≤ 140737488355328; omega); conv => whnf) | (refine brd (fun h => ?_) (fun h => ?_) <;> conv => whnf) | (refine br (fun h => ?_) (fun h => ?_) <;> conv => whnf) | (refine ret_now hE ?_; conv => whnf) | (intro hlen; conv => whnf))
        refine next_drop [0, 8, 9, 10] [2, 3] (k + 1, out ++ [.mk n a t qs]) ⟨hlt, hst.symm⟩ (show more.length - (k + 1) < more.length - k by omega) ?_
        conv => whnf
        rw [e3, e4]
        rfl
      · obtain ⟨n', a', t', ps'⟩ := x
        have hol : out.length = o.length + 1 := by rw [ho]; simp
        have hlast : (nodesL out)[0 + ((out.length : Int) - 1).toNat]? = some (.agg [.str n', .lst (a'.map attA), .str t', .lst (nodesL ps')]) := by
          rw [Nat.zero_add, show ((out.length : Int) - 1).toNat = o.length by omega, ho, nodesL_append, List.getElem?_append_right (by rw [nodesL_length]; exact Nat.le_refl _), nodesL_length]
          simp [nodesL, nodeA_mk]
        by_cases hn' : n' = []
        · have htl := cL_mem (l := out) (x := .mk n' a' t' ps') (by rw [ho]; simp)
          change 1 + t'.length ≤ _ at htl
          rw [show addN out (.mk n a t qs) = o ++ [.mk n' a' (t' ++ t) ps'] by subst hn'; rw [ho]; exact addN_text o a' t' ps' (x := .mk n a t qs) hn] at hst
          have e5 : out.length = (o ++ [Nd.mk n' a' (t' ++ t) ps']).length := by rw [hol]; simp
          have e6 : killL 2 ((nodesL out).set (0 + ((out.length : Int) - 1).toNat) (.agg [.str n', .lst (a'.map attA), .str (t' ++ t), .lst (nodesL ps')])) = nodesL (o ++ [.mk n' a' (t' ++ t) ps']) := by
            rw [Nat.zero_add, show ((out.length : Int) - 1).toNat = o.length by omega, ho, nodesL_append, List.set_append_right _ _ (by rw [nodesL_length]; exact Nat.le_refl _), nodesL_length, Nat.sub_self]
            have : (nodesL [Nd.mk n' a' t' ps']).set 0 (.agg [.str n', .lst (a'.map attA), .str (t' ++ t), .lst (nodesL ps')]) = nodesL [.mk n' a' (t' ++ t) ps'] := by simp [nodesL, nodeA_mk]
            rw [this, ← nodesL_append, kill_nodes]
          conv => whnf
          repeat' (first | (refine brd_t (by first | assumption | omega) ?_; conv => whnf) | (refine brd_f (by first | assumption | omega) ?_; conv => whnf) | (refine ask (by first | assumption | omega) ?_; conv => whnf) | (refine fit64 (by omega) ?_; conv => whnf) | (refine fit (by simp only [kmin, kmax]; omega) ?_; conv => whnf) | (refine br_t (by assumption) ?_; conv => whnf) | (refine br_f (by assumption) ?_; conv => whnf) | (refine get_of (by assumption) ?_; conv => whnf) | (refine get_map (by assumption) ?_; conv => whnf) | (refine get_of hlast ?_; conv => whnf) | (refine ask (Nat.le_refl 1) ?_; conv => whnf) | (refine ask (by omega) ?_; conv => whnf) | (refine ask ⟨?_, ?_, ?_⟩ ?_; omega; (show _ + 1 ≤ 9223372036854775807; omega); (show (_ + 1) * 80 ≤ 140737488355328; omega); conv => whnf) | (refine brd (fun h => ?_) (fun h => ?_) <;> conv => whnf) | (refine br (fun h => ?_) (fun h => ?_) <;> conv => whnf) | (refine ret_now hE ?_; conv => whnf) | (intro hlen; conv => whnf))
          refine next_drop [0, 8, 9, 10] [2] (k + 1, o ++ [.mk n' a' (t' ++ t) ps']) ⟨hlt, hst.symm⟩ (show more.length - (k + 1) < more.length - k by omega) ?_
          conv => whnf
          rw [e6, e5]
          rfl
        · rw [show addN out (.mk n a t qs) = out ++ [.mk n a t qs] by rw [ho, addN_after hn']] at hst
          conv => whnf
          repeat' (first | (refine brd_t (by first | assumption | omega) ?_; conv => whnf) | (refine brd_f (by first | assumption | omega) ?_; conv => whnf) | (refine ask (by first | assumption | omega) ?_; conv => whnf) | (refine fit64 (by omega) ?_; conv => whnf) | (refine fit (by simp only [kmin, kmax]; omega) ?_; conv => whnf) | (refine br_t (by assumption) ?_; conv => whnf) | (refine br_f (by assumption) ?_; conv => whnf) | (refine get_of (by assumption) ?_; conv => whnf) | (refine get_map (by assumption) ?_; conv => whnf) | (refine get_of hlast ?_; conv => whnf) | (refine ask (Nat.le_refl 1) ?_; conv => whnf) | (refine ask (by omega) ?_; conv => whnf) | (refine ask ⟨?_, ?_, ?_⟩ ?_; omega; (show _ + 1 ≤ 9223372036854775807; omega); (show (_ + 1) * 80 ≤ 140737488355328; omega); conv => whnf) | (refine brd (fun h => ?_) (fun h => ?_) <;> conv => whnf) | (refine br (fun h => ?_) (fun h => ?_) <;> conv => whnf) | (refine ret_now hE ?_; conv => whnf) | (intro hlen; conv => whnf))
          refine next_drop [0, 8, 9, 10] [2, 3] (k + 1, out ++ [.mk n a t qs]) ⟨hlt, hst.symm⟩ (show more.length - (k + 1) < more.length - k by omega) ?_
          conv => whnf
          rw [e3, e4]
          rfl
    · rw [addN_elem (x := .mk n a t qs) hn] at hst
      conv => whnf
      repeat' (first | (refine brd_t (by first | assumption | omega) ?_; conv => whnf) | (refine brd_f (by first | assumption | omega) ?_; conv => whnf) | (refine ask (by first | assumption | omega) ?_; conv => whnf) | (refine fit64 (by omega) ?_; conv => whnf) | (refine fit (by simp only [kmin, kmax]; omega) ?_; conv => whnf) | (refine br_t (by assumption) ?_; conv => whnf) | (refine br_f (by assumption) ?_; conv => whnf) | (refine get_of (by assumption) ?_; conv => whnf) | (refine get_map (by assumption) ?_; conv => whnf) | (refine ask (Nat.le_refl 1) ?_; conv => whnf) | (refine ask (by omega) ?_; conv => whnf) | (refine ask ⟨?_, ?_, ?_⟩ ?_; omega; (show _ + 1 ≤ 9223372036854775807; omega); (show (_ + 1) * 80 ≤ 140737488355328; omega); conv => whnf) | (refine brd (fun h => ?_) (fun h => ?_) <;> conv => whnf) | (refine br (fun h => ?_) (fun h => ?_) <;> conv => whnf) | (refine ret_now hE ?_; conv => whnf) | (intro hlen; conv => whnf))
      refine next_drop [0, 8, 9, 10] [2, 3] (k + 1, out ++ [.mk n a t qs]) ⟨hlt, hst.symm⟩ (show more.length - (k + 1) < more.length - k by omega) ?_
      conv => whnf
      rw [e3, e4]
      rfl
  · have hfull : more.take k = more := List.take_of_length_le (by omega)
    conv => whnf
    repeat' (first | (refine brd_t (by first | assumption | omega) ?_; conv => whnf) | (refine brd_f (by first | assumption | omega) ?_; conv => whnf) | (refine ask (by first | assumption | omega) ?_; conv => whnf) | (refine fit64 (by omega) ?_; conv => whnf) | (refine fit (by simp only [kmin, kmax]; omega) ?_; conv => whnf) | (refine br_t (by assumption) ?_; conv => whnf) | (refine br_f (by assumption) ?_; conv => whnf) | (refine get_of (by assumption) ?_; conv => whnf) | (refine get_map (by assumption) ?_; conv => whnf) | (refine brd (fun h => ?_) (fun h => ?_) <;> conv => whnf) | (refine br (fun h => ?_) (fun h => ?_) <;> conv => whnf) | (refine ret_now hE ?_; conv => whnf) | (intro hlen; conv => whnf))
    refine hret_now hE ?_
    conv => whnf
    rw [hfull] at hout
    exact ⟨rfl, rfl, by rw [hout], by rw [hout]⟩
theorem rule_cases (l : List Ru) (n : List UInt8) : (∃ i x, l[i]? = some x ∧ idxOf (fun q : Ru => decide (q.1 = n)) l = (i : Nat) ∧ doOf l n = x.2.1 ∧ toOf l n = x.2.2) ∨ (idxOf (fun q : Ru => decide (q.1 = n)) l = -1 ∧ doOf l n = 2) := by
  by_cases h : ∃ x ∈ l, (fun q : Ru => decide (q.1 = n)) x = true
  · cases hf : l.findIdx? (fun q : Ru => decide (q.1 = n)) with
    | none =>
      rw [List.findIdx?_eq_none_iff] at hf
      obtain ⟨x, hx, hp⟩ := h
      exact absurd hp (by simpa using hf x hx)
    | some i =>
      obtain ⟨hi, hp, hj⟩ := List.findIdx?_eq_some_iff_getElem.1 hf
      have hr : ruleOf l n = some l[i] := by
        unfold ruleOf
        rw [List.find?_eq_some_iff_getElem]
        exact ⟨hp, i, hi, rfl, fun j hji => by simpa using hj j hji⟩
      refine .inl ⟨i, l[i], List.getElem?_eq_getElem hi, ?_, ?_, ?_⟩
      · unfold idxOf; rw [hf]
      · unfold doOf; rw [hr]
      · unfold toOf; rw [hr]
  · have hr : ruleOf l n = none := by
      unfold ruleOf
      rw [List.find?_eq_none]
      exact fun x hx hp => h ⟨x, hx, hp⟩
    refine .inr ⟨idxOf_miss (fun x hx => ?_), ?_⟩
    · cases hp : decide (x.1 = n) with
      | false => rfl
      | true => exact absurd ⟨x, hx, hp⟩ h
    · unfold doOf; rw [hr]
theorem call_own {C : Ctx} {P : Program} {f : FuncId} {z n0 m : Nat} {els els' xs0 xs1 : List V} {fop : Operand} {args : List Operand} {K : V → ES → Prop} {σ : ES} (h : HFn P f (.sl 0 0 n0 :: xs0) [.row z els] [] (fun r o => r = .sl 0 0 m ∧ o = [.row z els'])) (hC : C.P = P) (hb : hasBody P f = true)
    (p : Nat) (he : evalC σ fop args = some (f, .sl p 0 n0 :: xs1)) (hx : rnL 1 (fun _ => p) xs0 xs1) (hrow : σ.heap[p]? = some (some (.row z els))) (hn : nrL els) (hn' : nrL els')
    (hK : killUE p σ.u fun u => fH ((killH p σ.heap).set p (some (.row z els'))) fun h => K (.sl p 0 m) ⟨σ.n, u, h⟩) : CallN C fop args f (.sl p 0 n0 :: xs1) K σ := by
  rw [killUE_eq, fH_eq] at hK
  refine call_h h hC hb he (fun _ => p) ?_ ?_ ?_ [p] ?_ ?_ ?_
  · intro i j hi hj _
    simp at hi hj
    omega
  · simp only [rnL]
    exact ⟨.sl p 0 n0, xs1, rfl, by simp [rnV], hx⟩
  · intro j o ho
    match j, ho with
    | 0, ho =>
      simp at ho
      subst ho
      exact ⟨_, hrow, els, rfl, rnL_self hn⟩
    | n + 1, ho => simp at ho
  · intro j _ hn
    exact absurd (by simp) hn
  · intro id hid
    simp at hid
    exact ⟨0, by simp, hid.symm⟩
  · rintro r0 objs' ⟨rfl, rfl⟩ _
    refine ⟨.sl p 0 m, [.row z els'], by simp [rnV], rfl, ?_, hK⟩
    intro j o o' ho ho'
    match j, ho, ho' with
    | 0, ho, ho' =>
      simp at ho ho'
      subst ho; subst ho'
      exact ⟨els', rfl, rnL_self hn'⟩
    | n + 1, ho, _ => simp at ho
theorem of1 (q : Ru) (n t : List UInt8) (a p : List V) : Fn1 Try.prog 57 [ruleA q, .rp [.str n, .lst a, .str t, .lst p]] (fun r => r = .bool (decide (q.1 = n))) := by
  refine fn1E (T := Try.tt) Try.func57 rfl tt_all follows_all ?_ ?_ fun C hC hE => ?_
  · kernel_rfl
  · exact Nat.le_of_ble_eq_true (by kernel_rfl)
  conv => whnf
  repeat' (first | (refine brd_t (by first | assumption | omega) ?_; conv => whnf) | (refine brd_f (by first | assumption | omega) ?_; conv => whnf) | (refine ask (by first | assumption | omega) ?_; conv => whnf) | (refine fit64 (by omega) ?_; conv => whnf) | (refine fit (by simp only [kmin, kmax]; omega) ?_; conv => whnf) | (refine br_t (by assumption) ?_; conv => whnf) | (refine br_f (by assumption) ?_; conv => whnf) | (refine get_of (by assumption) ?_; conv => whnf) | (refine get_map (by assumption) ?_; conv => whnf) | (refine brd (fun h => ?_) (fun h => ?_) <;> conv => whnf) | (refine br (fun h => ?_) (fun h => ?_) <;> conv => whnf) | (refine ret_now hE ?_; conv => whnf) | (intro hlen; conv => whnf))
  all_goals exact ⟨rfl, by congr 1; first | exact (decide_eq_true (by assumption)).symm | exact (decide_eq_false (by assumption)).symm⟩
set_option maxHeartbeats 8000000 in
theorem of_walk (l : List Ru) : ∀ (N : Nat) (ns : List Nd), szL ns ≤ N → N ≤ 1048576 → Fn1 Try.prog 32 [rulesV l, .lst (nodesL ns)] (fun r => r = .lst (nodesL (ofL l ns []))) := by
  intro N
  induction N using Nat.strongRecOn with
  | _ N ih =>
    intro ns hps hN
    have hlm := nodesL_length ns
    have hll := szL_len ns
    refine fn1E (T := Try.tt) Try.func32 rfl tt_all follows_all ?_ ?_ fun C hC hE => ?_
    · kernel_rfl
    · exact Nat.le_of_ble_eq_true (by kernel_rfl)
    conv => whnf
    repeat' (first | (refine brd_t (by first | assumption | omega) ?_; conv => whnf) | (refine brd_f (by first | assumption | omega) ?_; conv => whnf) | (refine ask (by first | assumption | omega) ?_; conv => whnf) | (refine fit64 (by omega) ?_; conv => whnf) | (refine fit (by simp only [kmin, kmax]; omega) ?_; conv => whnf) | (refine br_t (by assumption) ?_; conv => whnf) | (refine br_f (by assumption) ?_; conv => whnf) | (refine get_of (by assumption) ?_; conv => whnf) | (refine get_map (by assumption) ?_; conv => whnf) | (refine brd (fun h => ?_) (fun h => ?_) <;> conv => whnf) | (refine br (fun h => ?_) (fun h => ?_) <;> conv => whnf) | (refine ret_now hE ?_; conv => whnf) | (intro hlen; conv => whnf))
    refine loopE (fun ((k, out) : Nat × List Nd) => ⟨65, [(0, rulesV l), (5, .sl 0 0 out.length), (10, .lst (nodesL ns)), (11, .int .i64 (nodesL ns).length), (12, .int .i64 k)], [some (.row 4 (nodesL out))]⟩)
      (fun (k, out) => k ≤ ns.length ∧ cL out ≤ szL (ns.take k) ∧ ofL l (ns.drop k) out = ofL l ns []) (fun (k, _) => ns.length - k) (0, []) hE ?_ ?_ ⟨Nat.zero_le _, Nat.zero_le _, rfl⟩ ?_
    · kernel_rfl
    · exact up_own 5 4 rfl rfl (at_keep [0, 5, 10, 11, 12] rfl)
    rintro ⟨k, out⟩ ⟨hk, hc, hI⟩
    have hom := nodesL_length out
    have hol := cL_len out
    have htk : List.take out.length (List.drop 0 (nodesL out)) = nodesL out := by rw [List.drop_zero]; exact List.take_of_length_le (by omega)
    by_cases hlt : k < ns.length
    · obtain ⟨n, a, t, qs, hx, hx'⟩ := node_at hlt
      have hst := ofL_step (l := l) hx out
      rw [hI] at hst
      have hp2 := szL_mem (List.mem_of_getElem? hx)
      have e1 : szN (.mk n a t qs) = (n.length + 1) + ((a.map szA).sum + 1) + (t.length + 1) + (szL qs + 1) + 1 := by simp only [szN, szS]
      have hal := szA_len a
      have hlq := nodesL_length qs
      have hcl := clone_atts a (by omega)
      have hszk := szL_take hx
      have hszl := szL_take_le ns (k + 1)
      have hco := cL_ofN l (.mk n a t qs) out
      by_cases hn : n = []
      · by_cases ht : t = []
        · rw [ofN, if_pos hn, if_pos ht] at hst hco
          conv => whnf
          repeat' (first | (refine brd_t (by first | assumption | omega) ?_; conv => whnf) | (refine brd_f (by first | assumption | omega) ?_; conv => whnf) | (refine ask (by first | assumption | omega) ?_; conv => whnf) | (refine fit64 (by omega) ?_; conv => whnf) | (refine fit (by simp only [kmin, kmax]; omega) ?_; conv => whnf) | (refine br_t (by assumption) ?_; conv => whnf) | (refine br_f (by assumption) ?_; conv => whnf) | (refine get_of (by assumption) ?_; conv => whnf) | (refine get_map (by assumption) ?_; conv => whnf) | (refine brd_t rfl ?_; conv => whnf) | (refine brd (fun h => ?_) (fun h => ?_) <;> conv => whnf) | (refine br (fun h => ?_) (fun h => ?_) <;> conv => whnf) | (refine ret_now hE ?_; conv => whnf) | (intro hlen; conv => whnf))
          refine next_drop [0, 5, 10, 11, 12] [1] (k + 1, out) ⟨hlt, by omega, hst.symm⟩ (show ns.length - (k + 1) < ns.length - k by omega) ?_
          conv => whnf
          rw [kill_nodes]
          rfl
        · rw [ofN, if_pos hn, if_neg ht] at hst hco
          have hj := h_joined out [txN t] (by rw [cL_one]; change cL out + (1 + t.length) ≤ _; omega)
          conv => whnf
          repeat' (first | (refine brd_t (by first | assumption | omega) ?_; conv => whnf) | (refine brd_f (by first | assumption | omega) ?_; conv => whnf) | (refine ask (by first | assumption | omega) ?_; conv => whnf) | (refine fit64 (by omega) ?_; conv => whnf) | (refine fit (by simp only [kmin, kmax]; omega) ?_; conv => whnf) | (refine br_t (by assumption) ?_; conv => whnf) | (refine br_f (by assumption) ?_; conv => whnf) | (refine get_of (by assumption) ?_; conv => whnf) | (refine get_map (by assumption) ?_; conv => whnf) | (refine brd_t rfl ?_; conv => whnf) | (refine call_up (up_nl 2 rfl (up_freeze 2 (z := 4) (els := nodesL [txN t]) rfl ?_ (up_here ?_))); exact nodesL_nr _; conv => whnf) | (refine call_own hj hC hasBody_55 0 rfl ?_ ?_ (nodesL_nr _) (nodesL_nr _) ?_; exact rnL_self ⟨trivial, trivial⟩; exact congrArg (fun x => some (some (Ob.row 4 x))) (frz_nrL _ _ (nodesL_nr out)); conv => whnf) | (refine brd (fun h => ?_) (fun h => ?_) <;> conv => whnf) | (refine br (fun h => ?_) (fun h => ?_) <;> conv => whnf) | (refine ret_now hE ?_; conv => whnf) | (intro hlen; conv => whnf))
          refine next_drop [0, 5, 10, 11, 12] [1] (k + 1, joinL out [txN t]) ⟨hlt, (show cL (addN out (txN t)) ≤ szL (ns.take (k + 1)) by omega), hst.symm⟩ (show ns.length - (k + 1) < ns.length - k by omega) ?_
          conv => whnf
          rw [kill_nodes]
          rfl
      · have hfz : frzL 1 [nodeA (.mk n a t qs)] (nodesL out) = nodesL out := frz_nrL _ _ (nodesL_nr out)
        have hix := indexFunc_56 l 57 [.rp [.str n, .lst (a.map attA), .str t, .lst (nodesL qs)]] (fun q => decide (q.1 = n)) hasBody_57 rfl (fun q _ => of1 q n t _ _)
        have ih' := ih (szL qs) (by omega) qs (Nat.le_refl _) (by omega)
        have hcq := cL_ofL l qs []
        rcases rule_cases l n with ⟨i, x, hi, hii, hdo, hto⟩ | ⟨hii, hdo⟩
        · rw [hii] at hix
          by_cases h1 : x.2.1 = 1
          · rw [ofN, if_neg hn, if_pos (hdo.trans h1), hto] at hst hco
            conv => whnf
            repeat' (first | (refine brd_t (by first | assumption | omega) ?_; conv => whnf) | (refine brd_f (by first | assumption | omega) ?_; conv => whnf) | (refine ask (by first | assumption | omega) ?_; conv => whnf) | (refine fit64 (by omega) ?_; conv => whnf) | (refine fit (by simp only [kmin, kmax]; omega) ?_; conv => whnf) | (refine br_t (by assumption) ?_; conv => whnf) | (refine br_f (by assumption) ?_; conv => whnf) | (refine get_of (by assumption) ?_; conv => whnf) | (refine get_map (by assumption) ?_; conv => whnf) | (refine call_up (up_freeze 1 (z := 4) (els := [nodeA (.mk n a t qs)]) rfl ?_ (up_here ?_)); exact (nodesL_nr [.mk n a t qs]); conv => whnf) | (refine call_eq (hix) hC hasBody_56 ?_ ?_ ?_; kernel_rfl; kernel_rfl; conv => whnf) | (refine callq_eq (hix) hC hasBody_56 ?_ ?_ ?_; kernel_rfl; kernel_rfl; conv => whnf) | (refine call_eq (hcl) hC hasBody_47 ?_ ?_ ?_; kernel_rfl; kernel_rfl; conv => whnf) | (refine callq_eq (hcl) hC hasBody_47 ?_ ?_ ?_; kernel_rfl; kernel_rfl; conv => whnf) | (refine call_eq (ih') hC hasBody_32 ?_ ?_ ?_; kernel_rfl; kernel_rfl; conv => whnf) | (refine callq_eq (ih') hC hasBody_32 ?_ ?_ ?_; kernel_rfl; kernel_rfl; conv => whnf) | (refine ask (Nat.le_refl 1) ?_; conv => whnf) | (refine ask ⟨?_, ?_, ?_⟩ ?_; (rw [hfz]; omega); (show _ + 1 ≤ 9223372036854775807; omega); (show (_ + 1) * 80 ≤ 140737488355328; omega); conv => whnf) | (refine brd (fun h => ?_) (fun h => ?_) <;> conv => whnf) | (refine br (fun h => ?_) (fun h => ?_) <;> conv => whnf) | (refine ret_now hE ?_; conv => whnf) | (intro hlen; conv => whnf))
            refine next_drop [0, 5, 10, 11, 12] [1, 2] (k + 1, out ++ [.mk x.2.2 a [] (ofL l qs [])]) ⟨hlt, by omega, hst.symm⟩ (show ns.length - (k + 1) < ns.length - k by omega) ?_
            have e3 : out.length + (List.take 1 (List.drop 0 [V.agg [.str x.2.2, .lst (a.map attA), .str [], .lst (nodesL (ofL l qs []))]])).length = (out ++ [Nd.mk x.2.2 a [] (ofL l qs [])]).length := by simp
            have e4 : killL 2 (killL 1 (killL 0 (List.take out.length (List.drop 0 (frzL 1 [nodeA (.mk n a t qs)] (nodesL out))) ++ List.take 1 (List.drop 0 [V.agg [.str x.2.2, .lst (a.map attA), .str [], .lst (nodesL (ofL l qs []))]])))) = nodesL (out ++ [.mk x.2.2 a [] (ofL l qs [])]) := by
              rw [hfz, htk, show nodesL out ++ List.take 1 (List.drop 0 [V.agg [.str x.2.2, .lst (a.map attA), .str [], .lst (nodesL (ofL l qs []))]]) = nodesL (out ++ [.mk x.2.2 a [] (ofL l qs [])]) by rw [nodesL_append]; simp [nodesL, nodeA_mk], kill_nodes, kill_nodes, kill_nodes]
            conv => whnf
            rw [e3, e4]
            rfl
          · by_cases h2 : x.2.1 = 2
            · rw [ofN, if_neg hn, if_neg (by rw [hdo]; exact h1), if_pos (hdo.trans h2)] at hst hco
              have hj := h_joined out (ofL l qs []) (by have h0 : cL ([] : List Nd) = 0 := rfl; omega)
              conv => whnf
              repeat' (first | (refine brd_t (by first | assumption | omega) ?_; conv => whnf) | (refine brd_f (by first | assumption | omega) ?_; conv => whnf) | (refine ask (by first | assumption | omega) ?_; conv => whnf) | (refine fit64 (by omega) ?_; conv => whnf) | (refine fit (by simp only [kmin, kmax]; omega) ?_; conv => whnf) | (refine br_t (by assumption) ?_; conv => whnf) | (refine br_f (by assumption) ?_; conv => whnf) | (refine get_of (by assumption) ?_; conv => whnf) | (refine get_map (by assumption) ?_; conv => whnf) | (refine call_up (up_freeze 1 (z := 4) (els := [nodeA (.mk n a t qs)]) rfl ?_ (up_here ?_)); exact (nodesL_nr [.mk n a t qs]); conv => whnf) | (refine call_eq (hix) hC hasBody_56 ?_ ?_ ?_; kernel_rfl; kernel_rfl; conv => whnf) | (refine callq_eq (hix) hC hasBody_56 ?_ ?_ ?_; kernel_rfl; kernel_rfl; conv => whnf) | (refine call_eq (ih') hC hasBody_32 ?_ ?_ ?_; kernel_rfl; kernel_rfl; conv => whnf) | (refine callq_eq (ih') hC hasBody_32 ?_ ?_ ?_; kernel_rfl; kernel_rfl; conv => whnf) | (refine call_own hj hC hasBody_55 0 rfl ?_ ?_ (nodesL_nr _) (nodesL_nr _) ?_; exact rnL_self ⟨trivial, trivial⟩; exact congrArg (fun x => some (some (Ob.row 4 x))) (frz_nrL _ _ (nodesL_nr out)); conv => whnf) | (refine brd (fun h => ?_) (fun h => ?_) <;> conv => whnf) | (refine br (fun h => ?_) (fun h => ?_) <;> conv => whnf) | (refine ret_now hE ?_; conv => whnf) | (intro hlen; conv => whnf))
              refine next_drop [0, 5, 10, 11, 12] [2] (k + 1, joinL out (ofL l qs [])) ⟨hlt, by omega, hst.symm⟩ (show ns.length - (k + 1) < ns.length - k by omega) ?_
              conv => whnf
              rw [kill_nodes]
              rfl
            · rw [ofN, if_neg hn, if_neg (by rw [hdo]; exact h1), if_neg (by rw [hdo]; exact h2)] at hst hco
              conv => whnf
              repeat' (first | (refine brd_t (by first | assumption | omega) ?_; conv => whnf) | (refine brd_f (by first | assumption | omega) ?_; conv => whnf) | (refine ask (by first | assumption | omega) ?_; conv => whnf) | (refine fit64 (by omega) ?_; conv => whnf) | (refine fit (by simp only [kmin, kmax]; omega) ?_; conv => whnf) | (refine br_t (by assumption) ?_; conv => whnf) | (refine br_f (by assumption) ?_; conv => whnf) | (refine get_of (by assumption) ?_; conv => whnf) | (refine get_map (by assumption) ?_; conv => whnf) | (refine call_up (up_freeze 1 (z := 4) (els := [nodeA (.mk n a t qs)]) rfl ?_ (up_here ?_)); exact (nodesL_nr [.mk n a t qs]); conv => whnf) | (refine call_eq (hix) hC hasBody_56 ?_ ?_ ?_; kernel_rfl; kernel_rfl; conv => whnf) | (refine callq_eq (hix) hC hasBody_56 ?_ ?_ ?_; kernel_rfl; kernel_rfl; conv => whnf) | (refine brd (fun h => ?_) (fun h => ?_) <;> conv => whnf) | (refine br (fun h => ?_) (fun h => ?_) <;> conv => whnf) | (refine ret_now hE ?_; conv => whnf) | (intro hlen; conv => whnf))
              refine next_drop [0, 5, 10, 11, 12] [2] (k + 1, out) ⟨hlt, by omega, hst.symm⟩ (show ns.length - (k + 1) < ns.length - k by omega) ?_
              conv => whnf
              rw [hfz, kill_nodes]
              rfl
        · rw [hii] at hix
          rw [ofN, if_neg hn, if_neg (by rw [hdo]; decide), if_pos hdo] at hst hco
          have hj := h_joined out (ofL l qs []) (by have h0 : cL ([] : List Nd) = 0 := rfl; omega)
          conv => whnf
          repeat' (first | (refine brd_t (by first | assumption | omega) ?_; conv => whnf) | (refine brd_f (by first | assumption | omega) ?_; conv => whnf) | (refine ask (by first | assumption | omega) ?_; conv => whnf) | (refine fit64 (by omega) ?_; conv => whnf) | (refine fit (by simp only [kmin, kmax]; omega) ?_; conv => whnf) | (refine br_t (by assumption) ?_; conv => whnf) | (refine br_f (by assumption) ?_; conv => whnf) | (refine get_of (by assumption) ?_; conv => whnf) | (refine get_map (by assumption) ?_; conv => whnf) | (refine call_up (up_freeze 1 (z := 4) (els := [nodeA (.mk n a t qs)]) rfl ?_ (up_here ?_)); exact (nodesL_nr [.mk n a t qs]); conv => whnf) | (refine call_eq (hix) hC hasBody_56 ?_ ?_ ?_; kernel_rfl; kernel_rfl; conv => whnf) | (refine callq_eq (hix) hC hasBody_56 ?_ ?_ ?_; kernel_rfl; kernel_rfl; conv => whnf) | (refine call_eq (ih') hC hasBody_32 ?_ ?_ ?_; kernel_rfl; kernel_rfl; conv => whnf) | (refine callq_eq (ih') hC hasBody_32 ?_ ?_ ?_; kernel_rfl; kernel_rfl; conv => whnf) | (refine call_own hj hC hasBody_55 0 rfl ?_ ?_ (nodesL_nr _) (nodesL_nr _) ?_; exact rnL_self ⟨trivial, trivial⟩; exact congrArg (fun x => some (some (Ob.row 4 x))) (frz_nrL _ _ (nodesL_nr out)); conv => whnf) | (refine brd (fun h => ?_) (fun h => ?_) <;> conv => whnf) | (refine br (fun h => ?_) (fun h => ?_) <;> conv => whnf) | (refine ret_now hE ?_; conv => whnf) | (intro hlen; conv => whnf))
          refine next_drop [0, 5, 10, 11, 12] [2] (k + 1, joinL out (ofL l qs [])) ⟨hlt, by omega, hst.symm⟩ (show ns.length - (k + 1) < ns.length - k by omega) ?_
          conv => whnf
          rw [kill_nodes]
          rfl
    · conv => whnf
      repeat' (first | (refine brd_t (by first | assumption | omega) ?_; conv => whnf) | (refine brd_f (by first | assumption | omega) ?_; conv => whnf) | (refine ask (by first | assumption | omega) ?_; conv => whnf) | (refine fit64 (by omega) ?_; conv => whnf) | (refine fit (by simp only [kmin, kmax]; omega) ?_; conv => whnf) | (refine br_t (by assumption) ?_; conv => whnf) | (refine br_f (by assumption) ?_; conv => whnf) | (refine get_of (by assumption) ?_; conv => whnf) | (refine get_map (by assumption) ?_; conv => whnf) | (refine ret_up (up_frzK 0 4 [] rfl (nodesL_nr _) rfl (by omega) rfl (up_here ?_))) | (refine brd (fun h => ?_) (fun h => ?_) <;> conv => whnf) | (refine br (fun h => ?_) (fun h => ?_) <;> conv => whnf) | (refine ret_now hE ?_; conv => whnf) | (intro hlen; conv => whnf))
      rw [List.drop_eq_nil_of_le (by omega), ofL] at hI
      exact ⟨rfl, by rw [hI]⟩
end Go.Proofs.Yteekfmflecgjmaa
