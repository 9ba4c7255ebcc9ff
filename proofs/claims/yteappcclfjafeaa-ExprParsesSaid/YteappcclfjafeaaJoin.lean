/- strings.Join by the kit's contract. No conditions. -/
import Derived.Test.YteappcclfjafeaaOwn
import Derived.Shelf.Strings.OnBuilder
set_option linter.unusedSimpArgs false
set_option linter.unusedVariables false
set_option maxRecDepth 100000
namespace Go.Proofs.Yteappcclfjafeaa
open Go.RowKit Go.Shelf

/-! ### From the kit's contracts to ours -/
theorem kept_below {w w' : World} (h : Below w.heap.size w w') : Kept (fun _ => False) w w' := by
  refine ⟨h.os, h.tape, h.output, h.size, fun k hk _ => h.block k hk, fun b s hs => ?_⟩
  have hb : b < w.heap.size := by
    rcases Nat.lt_or_ge b w.heap.size with hb | hb
    · exact hb
    · simp only [World.shape?, Array.getElem?_eq_none hb] at hs
      cases hs
  simp only [World.shape?] at hs ⊢
  rw [h.block b hb]
  exact hs
theorem pr_str_inv {w : World} {I : Nat → Prop} {v : Value} {s : List UInt8} (h : Pr w I v (.str s)) : v = .string ⟨s.toArray⟩ ∧ s.length ≤ maxLen := by
  generalize hx : V.str s = x at h
  cases h with
  | str t ht =>
    cases hx
    exact ⟨by simp, by rw [Array.length_toList]; exact ht⟩
  | _ => cases hx
/-- A list of strings, as the world holds it. -/
theorem pr_strs_inv {w : World} {I : Nat → Prop} {v : Value} {xs : List (List UInt8)} (h : Pr w I v (.lst (xs.map V.str))) : (∃ a c, v = .slice a 0 c ∧ xs = []) ∨
    ∃ b off c, v = .slice (some ⟨b, off, none⟩) xs.length c ∧ I b ∧ xs.length ≤ c ∧ ∀ (j : Nat) x, (xs.map fun x => (⟨x.toArray⟩ : ByteArray))[j]? = some x → w.cell? ⟨b, off + j, none⟩ = some (.string x) := by
  generalize hL : xs.map V.str = L at h
  generalize hx : V.lst L = y at h
  cases h with
  | lnil a c =>
    cases hx
    refine .inl ⟨a, c, rfl, ?_⟩
    simpa using hL
  | lst b off c z l u hI hlc hcm hz hcell hone hpr =>
    cases hx
    subst hL
    by_cases h0 : xs = []
    · subst h0
      exact .inl ⟨_, c, rfl, rfl⟩
    · have hl : 0 < xs.length := List.length_pos_iff.2 h0
      have hz1 : z = 1 := by
        have := hz 0 (.str xs[0]) (by simp [List.getElem?_eq_getElem hl])
        simpa [V.cells] using this.symm
      subst hz1
      refine .inr ⟨b, off, c, by simp, hI, by simpa using hlc, fun j x hj => ?_⟩
      rw [List.getElem?_map, Option.map_eq_some_iff] at hj
      obtain ⟨s, hs, rfl⟩ := hj
      have hjl := (List.getElem?_eq_some_iff.1 hs).1
      have h1 := hcell j 0 (by simpa using hjl) (by decide)
      have h2 := hpr j (.str s) 0 (.str s) (by simp [hs]) rfl
      rw [(pr_str_inv h2).1] at h1
      simpa using h1
  | _ => cases hx
theorem fn1_str {P : Program} {f : FuncId} {w : World} {I : Nat → Prop} {vs : List Value} {s : List UInt8} (hI : ∀ b, I b → b < w.heap.size) (hs : s.length ≤ 140737488355328)
    (h : Calls P f vs.toArray w fun e w' => e = .returned (.string ⟨s.toArray⟩) ∧ Below w.heap.size w w') :
    Calls P f vs.toArray w fun e w' => ∃ v r I', e = .returned v ∧ r = V.str s ∧ Pr w' I' v r ∧ (∀ b, I' b → b < w'.heap.size ∧ (I b ∨ w.heap.size ≤ b)) ∧ Kept (fun _ => False) w w' := by
  refine h.mono ?_
  rintro e w' ⟨rfl, hb⟩
  refine ⟨_, _, I, rfl, rfl, ?_, fun b hIb => ⟨Nat.lt_of_lt_of_le (hI b hIb) hb.size, .inl hIb⟩, kept_below hb⟩
  have := Pr.str (w := w') (I := I) (⟨s.toArray⟩ : ByteArray) (by simp only [ByteArray.size, List.size_toArray, maxLen]; omega)
  simpa using this

def renJoin : Ren := {
  f := fun x => match x with | 156 => 61 | 165 => 70 | 166 => 71 | 169 => 72 | 240 => 77 | 241 => 78 | 276 => 81 | 277 => 82 | n => n
  t := fun x => match x with | 31 => 111 | 9 => 9 | 3 => 3 | 4 => 4 | 0 => 0 | 20 => 20 | 72 => 123 | 76 => 127 | 70 => 121 | 37 => 114 | 75 => 126 | 127 => 132 | 164 => 133 | 5 => 5 | 80 => 129 | n => n
  g := fun x => x }
theorem laysJoin : Lays.n156 Try.prog renJoin := {
  mixed := by kernel_rfl
  f156 := Try.func61.trans (congrArg some (by kernel_rfl))
  f165 := Try.func70.trans (congrArg some (by kernel_rfl))
  f166 := Try.func71.trans (congrArg some (by kernel_rfl))
  f169 := Try.func72.trans (congrArg some (by kernel_rfl))
  f240 := Try.func77.trans (congrArg some (by kernel_rfl))
  f241 := Try.func78.trans (congrArg some (by kernel_rfl))
  f276 := Try.func81.trans (congrArg some (by kernel_rfl))
  f277 := Try.func82.trans (congrArg some (by kernel_rfl))
  t0 := Try.underlying0
  a0 := Try.isAgg0
  z0 := Try.sizeOf0
  v0 := Try.zeroValue0
  t3 := Try.underlying3
  a3 := Try.isAgg3
  z3 := Try.sizeOf3
  v3 := Try.zeroValue3
  t4 := Try.underlying4
  a4 := Try.isAgg4
  z4 := Try.sizeOf4
  v4 := Try.zeroValue4
  t9 := Try.underlying9
  a9 := Try.isAgg9
  z9 := Try.sizeOf9
  v9 := Try.zeroValue9
  t20 := Try.underlying20
  a20 := Try.isAgg20
  z20 := Try.sizeOf20
  v20 := Try.zeroValue20
  t31 := Try.underlying111
  a31 := Try.isAgg111
  z31 := Try.sizeOf111
  v31 := Try.zeroValue111
  t37 := Try.underlying114
  a37 := Try.isAgg114
  z37 := Try.sizeOf114
  v37 := Try.zeroValue114
  t70 := Try.underlying121
  a70 := Try.isAgg121
  z70 := Try.sizeOf121
  v70 := Try.zeroValue121
  t72 := Try.underlying123
  a72 := Try.isAgg123
  z72 := Try.sizeOf123
  v72 := Try.zeroValue123
  t75 := Try.underlying126
  a75 := Try.isAgg126
  z75 := Try.sizeOf126
  v75 := Try.zeroValue126
  t76 := Try.underlying127
  a76 := Try.isAgg127
  z76 := Try.sizeOf127
  v76 := Try.zeroValue127
  t127 := Try.underlying132
  a127 := Try.isAgg132
  z127 := Try.sizeOf132
  v127 := Try.zeroValue132
  t164 := Try.underlying133
  a164 := Try.isAgg133
  z164 := Try.sizeOf133
  v164 := Try.zeroValue133 }
theorem extraJoin : Builder.Extra Try.prog renJoin := {
  sizeBuilder := by kernel_rfl
  liesBuilder := by kernel_rfl
  t5 := Try.underlying5
  a5 := Try.isAgg5
  z5 := Try.sizeOf5
  v5 := Try.zeroValue5
  infoByte := by kernel_rfl
  cellsByte := by kernel_rfl
  sizeByte := by kernel_rfl
  neB5 := by decide }
theorem join_strs (xs : List (List UInt8)) (sep : List UInt8) (h1 : xs.length ≤ 140737488355328) (h2 : (Lib.join xs sep).length ≤ 140737488355328) : Fn1 Try.prog 61 [.lst (xs.map V.str), .str sep] (fun r => r = .str (Lib.join xs sep)) := by
  intro w I vs hl hv hI
  obtain ⟨v0, v1, rfl⟩ : ∃ v0 v1, vs = [v0, v1] := by
    match vs, hl with
    | [a, b], _ => exact ⟨a, b, rfl⟩
  have p0 := hv 0 v0 _ rfl rfl
  obtain ⟨rfl, hsl⟩ := pr_str_inv (hv 1 v1 _ rfl rfl)
  refine fn1_str hI h2 ?_
  rcases pr_strs_inv p0 with ⟨a, c, rfl, rfl⟩ | ⟨b, off, c, rfl, hb, hc, hcell⟩
  · refine (Any.strings_Join_none laysJoin extraJoin a c ⟨sep.toArray⟩ w).mono ?_
    rintro e w' ⟨rfl, rfl⟩
    exact ⟨rfl, Below.refl _ _⟩
  · have hm : (xs.map fun x => (⟨x.toArray⟩ : ByteArray)).map (fun x => x.data.toList) = xs := by
      rw [List.map_map]
      exact (List.map_congr_left (g := id) (fun x _ => by simp)).trans (List.map_id xs)
    have hlen : (xs.map fun x => (⟨x.toArray⟩ : ByteArray)).length = xs.length := by simp
    have := Any.strings_Join laysJoin extraJoin b off c (xs.map fun x => (⟨x.toArray⟩ : ByteArray)) ⟨sep.toArray⟩ w hcell (hI b hb) (by rw [hlen]; exact h1) (by rw [hlen]; exact hc) (by rw [hm]; simpa using h2)
    rw [hm, hlen] at this
    exact this.mono fun e w' h => by simpa using h
end Go.Proofs.Yteappcclfjafeaa
