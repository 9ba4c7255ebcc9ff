/- A call that takes two own variables which stay where they lie. No conditions. -/
import Derived.Test.YteappcclfjafeaaFresh
set_option linter.unusedSimpArgs false
set_option linter.unusedVariables false
set_option maxRecDepth 100000
namespace Go.Proofs.Yteappcclfjafeaa
open Go.RowKit

def rhoTwo (p q : Nat) (j : Nat) : Nat := if j = 0 then p else q
theorem call_two {C : Ctx} {P : Program} {f : FuncId} {z z2 : Nat} {els els' els2 els2' xs0 : List V} {R0 : V} {fop : Operand} {args : List Operand} {K : V → ES → Prop} {σ : ES}
    (h : HFn P f (.ptr 0 0 0 :: .ptr 1 0 0 :: xs0) [.row z els, .row z2 els2] [0, 1] (fun r o => r = R0 ∧ o = [.row z els', .row z2 els2'])) (hC : C.P = P) (hb : hasBody P f = true)
    (p q : Nat) (hpq : p ≠ q) (he : evalC σ fop args = some (f, .ptr p 0 0 :: .ptr q 0 0 :: xs0)) (hx : nrL xs0) (hR : R0.nr) (hrow : σ.heap[p]? = some (some (.row z els))) (hrow2 : σ.heap[q]? = some (some (.row z2 els2)))
    (hn : nrL els) (hn' : nrL els') (hn2 : nrL els2) (hn2' : nrL els2')
    (hK : fH ((σ.heap.set p (some (.row z els'))).set q (some (.row z2 els2'))) fun h => K R0 ⟨σ.n, σ.u, h⟩) : CallN C fop args f (.ptr p 0 0 :: .ptr q 0 0 :: xs0) K σ := by
  rw [fH_eq] at hK
  refine call_h h hC hb he (rhoTwo p q) ?_ ?_ ?_ [] ?_ ?_ ?_
  · intro i j hi hj e
    simp only [List.length_cons, List.length_nil] at hi hj
    unfold rhoTwo at e
    split at e <;> split at e
    · omega
    · exact absurd e hpq
    · exact absurd e.symm hpq
    · omega
  · simp only [rnL]
    exact ⟨.ptr p 0 0, _, rfl, by simp [rnV, rhoTwo], .ptr q 0 0, xs0, rfl, by simp [rnV, rhoTwo], rnL_self hx⟩
  · intro j o ho
    match j, ho with
    | 0, ho =>
      simp at ho
      subst ho
      exact ⟨_, hrow, els, rfl, rnL_self hn⟩
    | 1, ho =>
      simp at ho
      subst ho
      exact ⟨_, hrow2, els2, rfl, rnL_self hn2⟩
    | n + 2, ho => simp at ho
  · intro j hj _
    simp at hj
    match j, hj with
    | 0, _ => simp
    | 1, _ => simp
    | n + 2, hj => omega
  · intro id hid
    simp at hid
  · rintro r0 objs' ⟨rfl, rfl⟩ _
    refine ⟨r0, [.row z els', .row z2 els2'], rnV_nr r0 hR, rfl, ?_, by rw [killUM_nil]; exact hK⟩
    intro j o o' ho ho'
    match j, ho, ho' with
    | 0, ho, ho' =>
      simp at ho ho'
      subst ho; subst ho'
      exact ⟨els', rfl, rnL_self hn'⟩
    | 1, ho, ho' =>
      simp at ho ho'
      subst ho; subst ho'
      exact ⟨els2', rfl, rnL_self hn2'⟩
    | n + 2, ho, _ => simp at ho
end Go.Proofs.Yteappcclfjafeaa
