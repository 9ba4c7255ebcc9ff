/- A result's variable whose two fields name own rows: the rows are frozen, all else is forgotten. No conditions. -/
import Derived.Test.YtmjglpdfkkmcoaaOwn
import Derived.Test.YtmjglpdfkkmcoaaData
set_option linter.unusedSimpArgs false
set_option linter.unusedVariables false
set_option maxRecDepth 100000
namespace Go.Proofs.Ytmjglpdfkkmcoaa
open Go.RowKit

section
variable {C : Ctx} {K : ES → Prop}
theorem solo_get {p k : Nat} {x : Ob} {o : Ob} (h : (List.replicate p none ++ [some x])[k]? = some (some o)) : k = p ∧ o = x := by
  rw [List.getElem?_append] at h
  split at h
  · rename_i hk
    simp at hk
    rw [List.getElem?_replicate, if_pos hk] at h
    cases h
  · rename_i hk
    simp at hk
    have : k - (List.replicate p (none : Option Ob)).length = k - p := by simp
    rw [this] at h
    match hj : k - p with
    | 0 => rw [hj] at h; cases h; exact ⟨by omega, rfl⟩
    | j + 1 => rw [hj] at h; simp at h
theorem solo_at (p : Nat) (x : Ob) : (List.replicate p none ++ [some x])[p]? = some (some x) := by
  rw [List.getElem?_append_right (by simp)]
  simp
/-- All but one object, and one pointer to it, is forgotten. -/
theorem up_solo (p t : Nat) {z n : Nat} {els : List V} {u : List (Nat × V)} {h : List (Option Ob)} (ho : h[p]? = some (some (.row z els))) (hnr : nrL els) (ht : lookU u t = .ptr p 0 0)
    (hk : UpE C K ⟨n, [(t, .ptr p 0 0)], List.replicate p none ++ [some (.row z els)]⟩) : UpE C K ⟨n, u, h⟩ := by
  refine up_to' [t] ?_
  refine ⟨up_of_rel (fun a w hr => ?_) hk.out⟩
  obtain ⟨I, bl, hp⟩ := hr.parts
  refine RP.rel (I := I) (bl := fun k => if k = p then bl p else none) ⟨hp.defers, ⟨by have := hp.env.1; simpa [ES.st, ES.env] using this, fun i v x hv hx => ?_⟩, ⟨fun id o hoo => ?_, fun id i hi => ?_, fun id id' i i' b h1 h2 h3 h4 => ?_, fun id i b h1 h2 => ?_, hp.heap.imm, hp.heap.kept⟩⟩
  · have hx : (ES.env ⟨n, [(t, .ptr p 0 0)], List.replicate p none ++ [some (.row z els)]⟩)[i]? = some x := hx
    have hx' : (ES.env ⟨n, keepU [t] u, h⟩)[i]? = some x := by
      have e : keepU [t] u = [(t, .ptr p 0 0)] := by simp [keepU, ht]
      rw [e]
      simpa [ES.env] using hx
    have hrep := hp.env.2 i v x hv hx'
    unfold ES.env at hx
    rw [List.getElem?_map, Option.map_eq_some_iff] at hx
    obtain ⟨s, _, rfl⟩ := hx
    by_cases e : s = t
    · subst e
      have e2 : lookU [(s, V.ptr p 0 0)] s = .ptr p 0 0 := by simp [lookU]
      rw [e2] at hrep ⊢
      obtain ⟨b, base, z', m, e', h1, h2, rfl⟩ := hrep.inv_ptr
      exact .ptr p 0 0 b base z' m e' (by simp [h1]) h2
    · have e2 : lookU [(t, V.ptr p 0 0)] s = .any := by
        have : Nat.beq s t = false := by cases hb : Nat.beq s t with
          | false => rfl
          | true => exact absurd (Nat.eq_of_beq_eq_true hb) e
        simp [lookU, this]
      rw [e2]
      exact .pure _ _ (.any _)
  · obtain ⟨rfl, rfl⟩ := solo_get (show (List.replicate p none ++ [some (Ob.row z els)])[id]? = some (some o) from hoo)
    obtain ⟨bi, h1, h2, h3, h4⟩ := hp.heap.obj id _ ho
    refine ⟨bi, by simpa using h1, h2, h3, ?_⟩
    cases hb : bi.blk with
    | none => simpa only [hb] using h4
    | some b =>
      simp only [hb] at h4 ⊢
      obtain ⟨cur, e, hg, hsz, hc⟩ := h4
      refine ⟨cur, e, hg, hsz, fun i x j c hx hxc => ?_⟩
      obtain ⟨v, hv, h1', hr'⟩ := hc i x j c hx hxc
      exact ⟨v, hv, h1', .pure _ _ (hr'.pr (nr_cells (nrL_get els i x hnr hx) j c hxc))⟩
  · have hi : (if id = p then bl p else none) = some i := hi
    split at hi
    · rename_i e
      subst e
      exact ⟨_, solo_at _ _⟩
    · cases hi
  · have h1 : (if id = p then bl p else none) = some i := h1
    have h2 : (if id' = p then bl p else none) = some i' := h2
    split at h1
    · rename_i e1
      split at h2
      · rename_i e2
        rw [e1, e2]
      · cases h2
    · cases h1
  · have h1 : (if id = p then bl p else none) = some i := h1
    split at h1
    · exact hp.heap.own p i b h1 h2
    · cases h1
theorem frz_self (id : Nat) (els : List V) {m : Nat} (hm : m = els.length) : (V.sl id 0 m).frz id els = .lst els := by
  subst hm
  simp [V.frz]
theorem frz_otherS {id i off m : Nat} (els : List V) (h : i ≠ id) : (V.sl i off m).frz id els = .sl i off m := by simp [V.frz, h]
theorem up_cell2 (p t a b : Nat) {za zb n m1 m2 : Nat} {la lb : List V} {u : List (Nat × V)} {h : List (Option Ob)} (ho : h[p]? = some (some (.row 2 [.agg [.sl a 0 m1, .sl b 0 m2]]))) (ht : lookU u t = .ptr p 0 0)
    (ha : h[a]? = some (some (.row za la))) (hb : h[b]? = some (some (.row zb lb))) (hab : a ≠ b) (hpa : p ≠ a) (hpb : p ≠ b) (na : nrL la) (nb : nrL lb) (e1 : m1 = la.length) (e2 : m2 = lb.length)
    (hk : UpE C K ⟨n, [(t, .ptr p 0 0)], List.replicate p none ++ [some (.row 2 [.agg [.lst la, .lst lb]])]⟩) : UpE C K ⟨n, u, h⟩ := by
  refine up_freeze a ha na ?_
  have hb' : ((frzH a la h).set a none)[b]? = some (some (.row zb lb)) := by
    rw [List.getElem?_set_ne hab, frzH_live a la h b _ hb]
    simp [Ob.frz, frz_nrL _ _ nb]
  have ho' : ((frzH a la h).set a none)[p]? = some (some (.row 2 [.agg [.lst la, .sl b 0 m2]])) := by
    rw [List.getElem?_set_ne (Ne.symm hpa), frzH_live a la h p _ ho]
    simp only [Ob.frz, frzL, V.frz]
    rw [if_pos trivial, if_pos (by omega), if_neg (Ne.symm hab), List.drop_zero, List.take_of_length_le (by omega)]
  refine up_freeze b hb' nb ?_
  refine up_solo p t (z := 2) (els := [.agg [.lst la, .lst lb]]) ?_ ⟨⟨trivial, trivial, trivial⟩, trivial⟩ ?_ hk
  · rw [List.getElem?_set_ne (Ne.symm hpb), frzH_live b lb _ p _ ho']
    simp only [Ob.frz, frzL, V.frz]
    rw [if_pos trivial, if_pos (by omega), List.drop_zero, List.take_of_length_le (by omega)]
  · rw [lookU_frz, lookU_frz, ht]
    simp [V.frz, hpa, hpb]
end
end Go.Proofs.Ytmjglpdfkkmcoaa
