/- A nil slice in a field of an own variable is an empty own slice. Nil slices among an object's values. No conditions. -/
import Derived.Test.YtmjglpdfkkmcoaaOwn
import Derived.Test.YtmjglpdfkkmcoaaData
set_option linter.unusedSimpArgs false
set_option linter.unusedVariables false
set_option maxRecDepth 100000
namespace Go.Proofs.Ytmjglpdfkkmcoaa
open Go.RowKit

theorem fresh_not (h : List (Option Ob)) : ∀ o, h[freshIn h]? ≠ some (some o) := by
  induction h with
  | nil => intro o ho; simp [freshIn] at ho
  | cons x r ih =>
    intro o ho
    cases x with
    | none => simp [freshIn] at ho
    | some y => exact ih o (by simpa [freshIn] using ho)
/-- A field of an own variable holds nil: it holds an own slice of no elements. -/
theorem up_ownF {C : Ctx} {K : ES → Prop} (p c z' : Nat) {z n : Nat} {l : List V} {u : List (Nat × V)} {h : List (Option Ob)} (ho : h[p]? = some (some (.row z [.agg l]))) (hl : l[c]? = some .nils)
    (hk : UpE C K ⟨n, u, (putOb h (.row z' [])).set p (some (.row z [.agg (l.set c (.sl (freshIn h) 0 0))]))⟩) : UpE C K ⟨n, u, h⟩ := by
  refine ⟨up_of_rel (fun a w hr => ?_) hk.out⟩
  obtain ⟨I, bl, hp0⟩ := hr.parts
  have hp := hp0.adopt z'
  have hne : p ≠ freshIn h := fun e => fresh_not h _ (e ▸ ho)
  have ho' : (putOb h (.row z' []))[p]? = some (some (.row z [.agg l])) := (putOb_other h _ p hne).trans ho
  have hpl : p < (putOb h (.row z' [])).length := (List.getElem?_eq_some_iff.1 ho').1
  refine RP.rel (I := I) (bl := upd bl (freshIn h) ⟨none, 0, z'⟩) ⟨hp.defers, hp.env, ⟨fun id o hoo => ?_, fun id i hi => ?_, hp.heap.apart, hp.heap.own, hp.heap.imm, hp.heap.kept⟩⟩
  · have hoo : ((putOb h (.row z' [])).set p (some (.row z [.agg (l.set c (.sl (freshIn h) 0 0))])))[id]? = some (some o) := hoo
    by_cases e : id = p
    · subst e
      rw [List.getElem?_set_self hpl] at hoo
      simp only [Option.some.injEq] at hoo
      subst hoo
      obtain ⟨bi, h1, h2, h3, h4⟩ := hp.heap.obj id _ ho'
      refine ⟨bi, h1, h2, fun i x hx => ?_, ?_⟩
      · cases i with
        | zero =>
          simp only [List.getElem?_cons_zero, Option.some.injEq] at hx
          subst hx
          have := h3 0 (.agg l) rfl
          simp only [V.cells] at this ⊢
          simpa using this
        | succ i => simp at hx
      · cases hbl : bi.blk with
        | none =>
          simp only [hbl] at h4
          cases h4
        | some b =>
          simp only [hbl] at h4 ⊢
          obtain ⟨cur, e, hg, hsz, hc⟩ := h4
          refine ⟨cur, e, hg, by simpa using hsz, fun i x j v hx hxc => ?_⟩
          cases i with
          | succ i => simp at hx
          | zero =>
            simp only [List.getElem?_cons_zero, Option.some.injEq] at hx
            subst hx
            simp only [V.cells] at hxc
            by_cases hj : j = c
            · subst hj
              have hlt : j < l.length := (List.getElem?_eq_some_iff.1 hl).1
              rw [List.getElem?_set_self hlt] at hxc
              simp only [Option.some.injEq] at hxc
              subst hxc
              obtain ⟨y, hy, h1', hr'⟩ := hc 0 (.agg l) j .nils rfl hl
              have := hr'.inv_nils
              subst this
              exact ⟨_, hy, h1', .nsl _ _ _ (upd_same _ _ _)⟩
            · rw [List.getElem?_set_ne (Ne.symm hj)] at hxc
              exact hc 0 (.agg l) j v rfl hxc
    · rw [List.getElem?_set_ne (Ne.symm e)] at hoo
      exact hp.heap.obj id o hoo
  · show ∃ o, ((putOb h (.row z' [])).set p (some (.row z [.agg (l.set c (.sl (freshIn h) 0 0))])))[id]? = some (some o)
    by_cases e : id = p
    · subst e; exact ⟨_, List.getElem?_set_self hpl⟩
    · rw [List.getElem?_set_ne (Ne.symm e)]
      exact hp.heap.live id i hi
end Go.Proofs.Ytmjglpdfkkmcoaa
