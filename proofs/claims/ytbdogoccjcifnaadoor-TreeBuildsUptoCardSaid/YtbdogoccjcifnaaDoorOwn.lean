/- Rules on objects of the call's own: a nil slice within gets an object; a hidden argument is forgotten. No conditions. -/
import Derived.Test.YtbdogoccjcifnaaDoorAwx
import Derived.Test.YtbdogoccjcifnaaDoorAwz
import Derived.Test.YtbdogoccjcifnaaDoorData
set_option linter.unusedSimpArgs false
set_option linter.unusedVariables false
set_option maxRecDepth 100000
namespace Go.Proofs.YtbdogoccjcifnaaDoor
open Go.RowKit

theorem rnL_self {k : Nat} {ρ : Nat → Nat} : ∀ {l : List V}, nrL l → rnL k ρ l l
  | [], _ => by simp [rnL]
  | x :: l, h => by
    simp only [rnL]
    exact ⟨x, l, rfl, rnV_nr x h.1, rnL_self h.2⟩
theorem killUM_nil (u : List (Nat × V)) : killUM [] u = u := by unfold killUM; simp [killM]
/-- What a hidden argument was is forgotten. -/
theorem up_hid {C : Ctx} {K : ES → Prop} (p : Nat) {vs : List Value} {l : List V} {n : Nat} {u : List (Nat × V)} {h : List (Option Ob)} (ho : h[p]? = some (some (.hid vs l))) (hk : UpE C K ⟨n, u, h.set p (some (.hid vs (l.map fun _ => V.any)))⟩) : UpE C K ⟨n, u, h⟩ := by
  refine ⟨up_of_rel (fun a w hr => ?_) hk.out⟩
  obtain ⟨I, bl, hp⟩ := hr.parts
  have hpl : p < h.length := (List.getElem?_eq_some_iff.1 ho).1
  refine RP.rel (I := I) (bl := bl) ⟨hp.defers, hp.env, ⟨fun id o hoo => ?_, fun id i hi => ?_, hp.heap.apart, hp.heap.own, hp.heap.imm, hp.heap.kept⟩⟩
  · have hoo : (h.set p (some (.hid vs (l.map fun _ => V.any))))[id]? = some (some o) := hoo
    by_cases e : id = p
    · subst e
      rw [List.getElem?_set_self hpl] at hoo
      simp only [Option.some.injEq] at hoo
      subst hoo
      obtain ⟨h1, h2, h3⟩ := hp.heap.obj id _ ho
      refine ⟨h1, by rw [List.length_map]; exact h2, fun i v x hv hx => ?_⟩
      rw [List.getElem?_map] at hx
      cases hl : l[i]? with
      | none => rw [hl] at hx; cases hx
      | some y => rw [hl] at hx; cases hx; exact .pure _ _ (.any _)
    · rw [List.getElem?_set_ne (Ne.symm e)] at hoo
      exact hp.heap.obj id o hoo
  · show ∃ o, (h.set p (some (.hid vs (l.map fun _ => V.any))))[id]? = some (some o)
    by_cases e : id = p
    · subst e; exact ⟨_, List.getElem?_set_self hpl⟩
    · rw [List.getElem?_set_ne (Ne.symm e)]
      exact hp.heap.live id i hi
/-- One list of cells is another, but that a nil slice may be the empty object q. -/
def ownC (q : Nat) (c c' : List V) : Prop := c'.length = c.length ∧ ∀ (j : Nat) (x' : V), c'[j]? = some x' → ∃ x, c[j]? = some x ∧ (x' = x ∨ (x = .nils ∧ x' = .sl q 0 0))
theorem ownC_at (q : Nat) (a b : List V) : ownC q (a ++ .nils :: b) (a ++ .sl q 0 0 :: b) := by
  refine ⟨by simp, fun j x' hx => ?_⟩
  rcases Nat.lt_trichotomy j a.length with h | h | h
  · rw [List.getElem?_append_left h] at hx ⊢
    exact ⟨x', hx, .inl rfl⟩
  · subst h
    rw [List.getElem?_append_right (Nat.le_refl _), Nat.sub_self] at hx ⊢
    simp only [List.getElem?_cons_zero, Option.some.injEq] at hx ⊢
    exact ⟨.nils, rfl, .inr ⟨rfl, hx.symm⟩⟩
  · rw [List.getElem?_append_right (by omega)] at hx ⊢
    obtain ⟨m, hm⟩ : ∃ m, j - a.length = m + 1 := ⟨j - a.length - 1, by omega⟩
    rw [hm] at hx ⊢
    simp only [List.getElem?_cons_succ] at hx ⊢
    exact ⟨x', hx, .inl rfl⟩
/-- A nil slice in an own row's only element gets an empty object. -/
theorem up_ownf {C : Ctx} {K : ES → Prop} (p z : Nat) {zz : Nat} {x x' : V} {n : Nat} {u : List (Nat × V)} {h : List (Option Ob)} (ho : h[p]? = some (some (.row zz [x]))) (hx : ownC (freshIn h) x.cells x'.cells)
    (ho' : (putOb h (.row z []))[p]? = some (some (.row zz [x]))) (hk : UpE C K ⟨n, u, (putOb h (.row z [])).set p (some (.row zz [x']))⟩) : UpE C K ⟨n, u, h⟩ := by
  refine ⟨up_of_rel (fun a w hr => ?_) hk.out⟩
  obtain ⟨I, bl, hp0⟩ := hr.parts
  have hp := hp0.adopt z
  have hpl : p < (putOb h (.row z [])).length := (List.getElem?_eq_some_iff.1 ho').1
  have hq : upd bl (freshIn h) (⟨none, 0, z⟩ : BI) (freshIn h) = some ⟨none, 0, z⟩ := upd_same _ _ _
  refine RP.rel (I := I) (bl := upd bl (freshIn h) ⟨none, 0, z⟩) ⟨hp.defers, hp.env, ⟨fun id o hoo => ?_, fun id i hi => ?_, hp.heap.apart, hp.heap.own, hp.heap.imm, hp.heap.kept⟩⟩
  · have hoo : ((putOb h (.row z [])).set p (some (.row zz [x'])))[id]? = some (some o) := hoo
    by_cases e : id = p
    · subst e
      rw [List.getElem?_set_self hpl] at hoo
      simp only [Option.some.injEq] at hoo
      subst hoo
      obtain ⟨bi, h1, h2, h3, h4⟩ := hp.heap.obj id _ ho'
      refine ⟨bi, h1, h2, fun i y hy => ?_, ?_⟩
      · match i, hy with
        | 0, hy =>
          simp at hy
          subst hy
          rw [hx.1]; exact h3 0 x rfl
        | i + 1, hy => simp at hy
      · cases hbl : bi.blk with
        | none => simp only [hbl] at h4; cases h4
        | some b =>
          simp only [hbl] at h4 ⊢
          obtain ⟨cur, e, hg, hsz, hc⟩ := h4
          refine ⟨cur, e, hg, hsz, fun i y j c hy hyc => ?_⟩
          match i, hy with
          | 0, hy =>
            simp at hy
            subst hy
            obtain ⟨c0, hc0, hcc⟩ := hx.2 j c hyc
            obtain ⟨v, hv, h1', hr'⟩ := hc 0 x j c0 rfl hc0
            rcases hcc with rfl | ⟨rfl, rfl⟩
            · exact ⟨v, hv, h1', hr'⟩
            · have := hr'.inv_nils
              subst this
              exact ⟨_, hv, h1', .nsl _ _ _ hq⟩
          | i + 1, hy => simp at hy
    · rw [List.getElem?_set_ne (Ne.symm e)] at hoo
      exact hp.heap.obj id o hoo
  · show ∃ o, ((putOb h (.row z [])).set p (some (.row zz [x'])))[id]? = some (some o)
    by_cases e : id = p
    · subst e; exact ⟨_, List.getElem?_set_self hpl⟩
    · rw [List.getElem?_set_ne (Ne.symm e)]
      exact hp.heap.live id i hi
/-- The heap, reckoned. -/
theorem up_same {C : Ctx} {K : ES → Prop} {n : Nat} {u : List (Nat × V)} {h : List (Option Ob)} (h' : List (Option Ob)) (e : fH h fun x => x = h') (hk : UpE C K ⟨n, u, h'⟩) : UpE C K ⟨n, u, h⟩ := by
  rw [fH_eq] at e
  rw [e]; exact hk
/-- A call whose objects lie where the callee's do. -/
theorem call_id {C : Ctx} {P : Program} {f : FuncId} {xs : List V} {objs0 objs1 : List Ob} {fixed : List Nat} {R0 : V} {fop : Operand} {args : List Operand} {K : V → ES → Prop} {σ : ES} (h : HFn P f xs objs0 fixed (fun r o => r = R0 ∧ o = objs1)) (hC : C.P = P) (hb : hasBody P f = true)
    (he : evalC σ fop args = some (f, xs)) (hxs : rnL objs0.length (fun j => j) xs xs) (hobj : ∀ (j : Nat) (o : Ob), objs0[j]? = some o → σ.heap[j]? = some (some o) ∧ rnO objs0.length (fun j => j) o o)
    (M : List Nat) (hM : ∀ j, j < objs0.length → j ∉ M → j ∈ fixed) (hMi : ∀ j ∈ M, j < objs0.length) (hR : rnV objs0.length (fun j => j) R0 R0) (hob : ∀ (j : Nat) (o : Ob), objs1[j]? = some o → rnO objs0.length (fun j => j) o o) (hl : objs1.length = objs0.length)
    (hK : K R0 ⟨σ.n, killUM M σ.u, setObs (fun j => j) objs1 0 (killHM M σ.heap)⟩) : CallN C fop args f xs K σ := by
  refine call_h h hC hb he (fun j => j) (fun i j _ _ e => e) hxs (fun j o ho => ⟨o, hobj j o ho⟩) M hM (fun j hj => ⟨j, hMi j hj, rfl⟩) ?_
  rintro r0 objs' ⟨rfl, rfl⟩ _
  refine ⟨r0, objs', hR, hl, fun j o o' ho ho' => ?_, hK⟩
  rw [ho] at ho'
  cases ho'
  exact hob j o ho
theorem rnO_nr {k : Nat} {ρ : Nat → Nat} {z : Nat} {els : List V} (h : nrL els) : rnO k ρ (.row z els) (.row z els) := ⟨els, rfl, rnL_self h⟩
end Go.Proofs.YtbdogoccjcifnaaDoor
