/- strings.Join by the kit's contract. No conditions. -/
import Derived.Test.YtmjglpdfkkmcoaaDoorOwn
import Derived.Shelf.Strings.OnBuilder
set_option linter.unusedSimpArgs false
set_option linter.unusedVariables false
set_option maxRecDepth 100000
namespace Go.Proofs.YtmjglpdfkkmcoaaDoor
open Go.RowKit Go.Shelf

/-! ### From the kit's contracts to ours -/
theorem kept_below {w w' : World} (h : Below w.heap.size w w') : Kept (fun _ => False) w w' := by
  refine ⟨h.os, h.tape, h.output, h.size, fun k hk _ => h.block k hk, fun b s hs => ?_⟩
  have hb : b < w.heap.size := by
    rcases Nat.lt_or_ge b w.heap.size with hb | hb
    · exact hb
    · simp only [World.shape?, Array.getElem?_eq_none hb] at hs
      cases hs
  simp only [World.shape?] at hs ⊢
  rw [h.block b hb]
  exact hs
theorem pr_str_inv {w : World} {I : Nat → Prop} {v : Value} {s : List UInt8} (h : Pr w I v (.str s)) : v = .string ⟨s.toArray⟩ ∧ s.length ≤ maxLen := by
  generalize hx : V.str s = x at h
  cases h with
  | str t ht =>
    cases hx
    exact ⟨by simp, by rw [Array.length_toList]; exact ht⟩
  | _ => cases hx
/-- A list of strings, as the world holds it. -/
theorem pr_strs_inv {w : World} {I : Nat → Prop} {v : Value} {xs : List (List UInt8)} (h : Pr w I v (.lst (xs.map V.str))) : (∃ a c, v = .slice a 0 c ∧ xs = []) ∨
    ∃ b off c, v = .slice (some ⟨b, off, none⟩) xs.length c ∧ I b ∧ xs.length ≤ c ∧ ∀ (j : Nat) x, (xs.map fun x => (⟨x.toArray⟩ : ByteArray))[j]? = some x → w.cell? ⟨b, off + j, none⟩ = some (.string x) := by
  generalize hL : xs.map V.str = L at h
  generalize hx : V.lst L = y at h
  cases h with
  | lnil a c =>
    cases hx
    refine .inl ⟨a, c, rfl, ?_⟩
    simpa using hL
  | lst b off c z l u hI hlc hcm hz hcell hone hpr =>
    cases hx
    subst hL
    by_cases h0 : xs = []
    · subst h0
      exact .inl ⟨_, c, rfl, rfl⟩
    · have hl : 0 < xs.length := List.length_pos_iff.2 h0
      have hz1 : z = 1 := by
        have := hz 0 (.str xs[0]) (by simp [List.getElem?_eq_getElem hl])
        simpa [V.cells] using this.symm
      subst hz1
      refine .inr ⟨b, off, c, by simp, hI, by simpa using hlc, fun j x hj => ?_⟩
      rw [List.getElem?_map, Option.map_eq_some_iff] at hj
      obtain ⟨s, hs, rfl⟩ := hj
      have hjl := (List.getElem?_eq_some_iff.1 hs).1
      have h1 := hcell j 0 (by simpa using hjl) (by decide)
      have h2 := hpr j (.str s) 0 (.str s) (by simp [hs]) rfl
      rw [(pr_str_inv h2).1] at h1
      simpa using h1
  | _ => cases hx
theorem fn1_str {P : Program} {f : FuncId} {w : World} {I : Nat → Prop} {vs : List Value} {s : List UInt8} (hI : ∀ b, I b → b < w.heap.size) (hs : s.length ≤ 140737488355328)
    (h : Calls P f vs.toArray w fun e w' => e = .returned (.string ⟨s.toArray⟩) ∧ Below w.heap.size w w') :
    Calls P f vs.toArray w fun e w' => ∃ v r I', e = .returned v ∧ r = V.str s ∧ Pr w' I' v r ∧ (∀ b, I' b → b < w'.heap.size ∧ (I b ∨ w.heap.size ≤ b)) ∧ Kept (fun _ => False) w w' := by
  refine h.mono ?_
  rintro e w' ⟨rfl, hb⟩
  refine ⟨_, _, I, rfl, rfl, ?_, fun b hIb => ⟨Nat.lt_of_lt_of_le (hI b hIb) hb.size, .inl hIb⟩, kept_below hb⟩
  have := Pr.str (w := w') (I := I) (⟨s.toArray⟩ : ByteArray) (by simp only [ByteArray.size, List.size_toArray, maxLen]; omega)
  simpa using this

end Go.Proofs.YtmjglpdfkkmcoaaDoor
