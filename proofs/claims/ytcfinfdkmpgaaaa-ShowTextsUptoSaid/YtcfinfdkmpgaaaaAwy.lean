/- Abstract walk: a call that only reads an object of the caller's own and answers with a plain value. No conditions. -/
import Derived.Test.YtcfinfdkmpgaaaaAwx
set_option linter.unusedSimpArgs false
set_option linter.unusedVariables false
set_option maxRecDepth 100000
namespace Go.Proofs.Ytcfinfdkmpgaaaa
open Go.RowKit

def scV : V → Bool
  | .bool _ => true
  | .int _ _ => true
  | _ => false
theorem Pr.sc {w w' : World} {I I' : Nat → Prop} {v : Value} {x : V} (hs : scV x = true) (h : Pr w I v x) : Pr w' I' v x := by
  cases h <;> first | (simp [scV] at hs; done) | exact .bool _ | exact .int _ _
theorem acall_lend {C : Ctx} {f : FuncId} {xs : List V} {r0 : V} {K : V → St → Prop} {σ : St} (id : Nat) {z : Nat} {els : List V} (hrow : σ.row id = some (z, els)) (hnr : nrL els) (h : Fn1 C.P f (frzL id els xs) (fun r => r = r0)) (hx : nrL (frzL id els xs)) (hs : scV r0 = true) (hk : K r0 σ) : ACall C f xs K σ := by
  intro a w vs ⟨I, bl, h1, h2, h3, h4⟩
  obtain ⟨bi, hb1, hb2, hb3, hb4⟩ := h4.obj id _ (row_some hrow)
  let I' : Nat → Prop := fun b => I b ∨ bi.blk = some b
  let bl' : Nat → Option BI := fun k => if k = id then none else bl k
  have hb : ∀ k, k ≠ id → bl' k = bl k := fun k hk => if_neg hk
  have hf : Frz w I I' bl bl' id els := by
    refine ⟨fun b h => .inl h, hb, ?_, ?_⟩
    · intro i b h1 h2
      rw [hb1] at h1
      simp only [Option.some.injEq] at h1
      subst h1
      refine ⟨.inr h2, fun k x hx => by rw [hb2]; exact hb3 k x hx, ?_⟩
      rw [h2] at hb4
      obtain ⟨cur, e, hg, hsz, hc⟩ := hb4
      intro k x j c hx hxc
      obtain ⟨u, hu, h1', hr⟩ := hc k x j c hx hxc
      refine ⟨u, ?_, h1', (hr.pr (nr_cells (nrL_get els k x hnr hx) j c hxc)).later (fun _ _ => rfl) (fun b h => .inl h)⟩
      rw [cell_of_row w b _ cur e (0, 0) hg, hb2]
      exact hu
    · intro i h1 h2
      rw [hb1] at h1
      simp only [Option.some.injEq] at h1
      subst h1
      rw [h2] at hb4
      exact hb4
  have hI'lt : ∀ b, I' b → b < w.heap.size := by
    rintro b (hb | hb)
    · exact (h4.imm b hb).1
    · exact (h4.own id bi b hb1 hb).1
  refine (h w I' vs (by rw [frzL_length]; exact h3.1) (fun i v x hv hx' => ?_) hI'lt).mono ?_
  · obtain ⟨y, hy, rfl⟩ := frzL_get id els xs i x hx'
    exact ((h3.2 i v y hv hy).frz hf).pr (nrL_get _ i _ hx hx')
  rintro e w' ⟨v, r, I'', rfl, rfl, hpr, hI'', hkept⟩
  refine ⟨v, r, σ, rfl, hk, ?_⟩
  have hsame : ∀ b, b < w.heap.size → w'.heap[b]? = w.heap[b]? := fun b hb => hkept.block b hb (fun h => h)
  have hl : Later I w w' := ⟨fun b hb => hsame b (h4.imm b hb).1, fun b s hs => by
    have hlt : b < w.heap.size := by
      unfold World.shape? at hs
      split at hs
      · rename_i h; exact (Array.getElem?_eq_some_iff.1 h).1
      · cases hs
    rw [shape_of_heap (hsame b hlt)]; exact hs⟩
  have hI : ∀ b, I b → I b := fun b hb => hb
  refine ⟨I, bl, h1, h2.later hl hI (fun _ _ h => h), ⟨rfl, fun i v' x hv hx' => ?_⟩, ⟨fun id o ho => (h4.obj id o ho).later hl hI (fun _ _ h => h) (fun i b hb1 hb2 => hsame b (h4.own id i b hb1 hb2).1) (fun h => h), h4.live, h4.apart, fun id i b hb1 hb2 => ?_, fun k hk' => ?_, h4.kept.trans ⟨hkept.os, hkept.tape, hkept.output, hkept.size, fun k hk1 _ => hkept.block k hk1 (fun h => h), hkept.shape⟩⟩⟩
  · cases i with
    | zero => simp at hv hx'; subst hv; subst hx'; exact .pure _ _ (hpr.sc hs)
    | succ i => simp at hv
  · obtain ⟨g1, g2, g3⟩ := h4.own id i b hb1 hb2
    exact ⟨Nat.lt_of_lt_of_le g1 hkept.size, g2, g3⟩
  · obtain ⟨g1, g2⟩ := h4.imm k hk'
    exact ⟨Nat.lt_of_lt_of_le g1 hkept.size, g2⟩

/-- A call by its contract, where an object of the caller's own is read. -/
theorem call_lend {C : Ctx} {P : Program} {fop : Operand} {args : List Operand} {f : FuncId} {xs xs' : List V} {r : V} {K : V → ES → Prop} {σ : ES} (id : Nat) {z : Nat} {els : List V} (h : Fn1 P f xs' (fun r' => r' = r)) (hC : C.P = P) (hb : hasBody P f = true) (hr : σ.heap[id]? = some (some (.row z els))) (hnr : nrL els) (hs : scV r = true) (e : frzL id els xs = xs') (hn : nrB xs' = true) (he : evalC σ fop args = some (f, xs)) (hk : K r σ) : CallN C fop args f xs K σ := by
  subst hC
  subst e
  obtain ⟨caps, h1, h2⟩ := evalC_spec he
  refine ⟨up_intro ?_⟩
  unfold CallAt
  rw [h1]
  simp only
  rw [h2]
  exact ⟨hb, acall_lend id (z := z) (els := els) (by simp [St.row, ES.st, hr]) hnr h (nrB_nrL _ hn) hs (kst hk)⟩
end Go.Proofs.Ytcfinfdkmpgaaaa
