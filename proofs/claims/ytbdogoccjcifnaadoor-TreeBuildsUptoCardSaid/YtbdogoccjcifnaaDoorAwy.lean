/- Abstract walk: a call that only reads an object of the caller's own and answers with a plain value. No conditions. -/
import Derived.Test.YtbdogoccjcifnaaDoorAwx
set_option linter.unusedSimpArgs false
set_option linter.unusedVariables false
set_option maxRecDepth 100000
namespace Go.Proofs.YtbdogoccjcifnaaDoor
open Go.RowKit

/-- A call by its contract, where an object of the caller's own is read. -/
theorem call_lend {C : Ctx} {P : Program} {fop : Operand} {args : List Operand} {f : FuncId} {xs xs' : List V} {r : V} {K : V → ES → Prop} {σ : ES} (id : Nat) {z : Nat} {els : List V} (h : Fn1 P f xs' (fun r' => r' = r)) (hC : C.P = P) (hb : hasBody P f = true) (hr : σ.heap[id]? = some (some (.row z els))) (hnr : nrL els) (hs : scV r = true) (e : frzL id els xs = xs') (hn : nrB xs' = true) (he : evalC σ fop args = some (f, xs)) (hk : K r σ) : CallN C fop args f xs K σ := by
  subst hC
  subst e
  obtain ⟨caps, h1, h2⟩ := evalC_spec he
  refine ⟨up_intro ?_⟩
  unfold CallAt
  rw [h1]
  simp only
  rw [h2]
  exact ⟨hb, acall_lend id (z := z) (els := els) (by simp [St.row, ES.st, hr]) hnr h (nrB_nrL _ hn) hs (kst hk)⟩
/-- The same in a region that draws its order. -/
theorem callq_lend {C : Ctx} {P : Program} {fop : Operand} {args : List Operand} {f : FuncId} {xs xs' : List V} {r : V} {K : V → ES → Prop} {σ : ES} (id : Nat) {z : Nat} {els : List V} (h : Fn1 P f xs' (fun r' => r' = r)) (hC : C.P = P) (hb : hasBody P f = true) (hr : σ.heap[id]? = some (some (.row z els))) (hnr : nrL els) (hs : scV r = true) (e : frzL id els xs = xs') (hn : nrB xs' = true) (he : evalC σ fop args = some (f, xs)) (hk : K r σ) : CallNQ C fop args f xs K σ := by
  subst hC
  subst e
  obtain ⟨caps, h1, h2⟩ := evalC_spec he
  refine ⟨?_⟩
  unfold CallQ
  rw [h1]
  simp only
  rw [h2]
  exact ⟨hb, .inr (.inl ⟨id, z, els, r, by simp [St.row, ES.st, hr], hnr, nrB_nrL _ hn, hs, h, kst hk⟩)⟩
/-- The same where two objects are read. -/
theorem callq_lend2 {C : Ctx} {P : Program} {fop : Operand} {args : List Operand} {f : FuncId} {xs xs' : List V} {r : V} {K : V → ES → Prop} {σ : ES} (id id2 : Nat) {z z2 : Nat} {els els2 : List V} (h : Fn1 P f xs' (fun r' => r' = r)) (hC : C.P = P) (hb : hasBody P f = true) (hne : id2 ≠ id) (hr : σ.heap[id]? = some (some (.row z els))) (hr2 : σ.heap[id2]? = some (some (.row z2 els2))) (hnr : nrL els) (hnr2 : nrL els2) (hs : scV r = true) (e : frzL id2 els2 (frzL id els xs) = xs') (hn : nrB xs' = true) (he : evalC σ fop args = some (f, xs)) (hk : K r σ) : CallNQ C fop args f xs K σ := by
  subst hC
  subst e
  obtain ⟨caps, h1, h2⟩ := evalC_spec he
  refine ⟨?_⟩
  unfold CallQ
  rw [h1]
  simp only
  rw [h2]
  exact ⟨hb, .inr (.inr ⟨id, z, els, id2, z2, els2, r, hne, by simp [St.row, ES.st, hr], by simp [St.row, ES.st, hr2], hnr, hnr2, nrB_nrL _ hn, hs, h, kst hk⟩)⟩
end Go.Proofs.YtbdogoccjcifnaaDoor
