/- strings.Join by the kit's contract. No conditions. -/
import Derived.Test.YtaeeceabnkgnnaaDoorOwn
import Derived.Shelf.Strings.OnBuilder
set_option linter.unusedSimpArgs false
set_option linter.unusedVariables false
set_option maxRecDepth 100000
namespace Go.Proofs.YtaeeceabnkgnnaaDoor
open Go.RowKit Go.Shelf

/-! ### From the kit's contracts to ours -/
theorem kept_below {w w' : World} (h : Below w.heap.size w w') : Kept (fun _ => False) w w' := by
  refine ⟨h.os, h.tape, h.output, h.size, fun k hk _ => h.block k hk, fun b s hs => ?_⟩
  have hb : b < w.heap.size := by
    rcases Nat.lt_or_ge b w.heap.size with hb | hb
    · exact hb
    · simp only [World.shape?, Array.getElem?_eq_none hb] at hs
      cases hs
  simp only [World.shape?] at hs ⊢
  rw [h.block b hb]
  exact hs
theorem pr_str_inv {w : World} {I : Nat → Prop} {v : Value} {s : List UInt8} (h : Pr w I v (.str s)) : v = .string ⟨s.toArray⟩ ∧ s.length ≤ maxLen := by
  generalize hx : V.str s = x at h
  cases h with
  | str t ht =>
    cases hx
    exact ⟨by simp, by rw [Array.length_toList]; exact ht⟩
  | _ => cases hx
/-- A list of strings, as the world holds it. -/
theorem pr_strs_inv {w : World} {I : Nat → Prop} {v : Value} {xs : List (List UInt8)} (h : Pr w I v (.lst (xs.map V.str))) : (∃ a c, v = .slice a 0 c ∧ xs = []) ∨
    ∃ b off c, v = .slice (some ⟨b, off, none⟩) xs.length c ∧ I b ∧ xs.length ≤ c ∧ ∀ (j : Nat) x, (xs.map fun x => (⟨x.toArray⟩ : ByteArray))[j]? = some x → w.cell? ⟨b, off + j, none⟩ = some (.string x) := by
  generalize hL : xs.map V.str = L at h
  generalize hx : V.lst L = y at h
  cases h with
  | lnil a c =>
    cases hx
    refine .inl ⟨a, c, rfl, ?_⟩
    simpa using hL
  | lst b off c z l u hI hlc hcm hz hcell hone hpr =>
    cases hx
    subst hL
    by_cases h0 : xs = []
    · subst h0
      exact .inl ⟨_, c, rfl, rfl⟩
    · have hl : 0 < xs.length := List.length_pos_iff.2 h0
      have hz1 : z = 1 := by
        have := hz 0 (.str xs[0]) (by simp [List.getElem?_eq_getElem hl])
        simpa [V.cells] using this.symm
      subst hz1
      refine .inr ⟨b, off, c, by simp, hI, by simpa using hlc, fun j x hj => ?_⟩
      rw [List.getElem?_map, Option.map_eq_some_iff] at hj
      obtain ⟨s, hs, rfl⟩ := hj
      have hjl := (List.getElem?_eq_some_iff.1 hs).1
      have h1 := hcell j 0 (by simpa using hjl) (by decide)
      have h2 := hpr j (.str s) 0 (.str s) (by simp [hs]) rfl
      rw [(pr_str_inv h2).1] at h1
      simpa using h1
  | _ => cases hx
theorem fn1_str {P : Program} {f : FuncId} {w : World} {I : Nat → Prop} {vs : List Value} {s : List UInt8} (hI : ∀ b, I b → b < w.heap.size) (hs : s.length ≤ 140737488355328)
    (h : Calls P f vs.toArray w fun e w' => e = .returned (.string ⟨s.toArray⟩) ∧ Below w.heap.size w w') :
    Calls P f vs.toArray w fun e w' => ∃ v r I', e = .returned v ∧ r = V.str s ∧ Pr w' I' v r ∧ (∀ b, I' b → b < w'.heap.size ∧ (I b ∨ w.heap.size ≤ b)) ∧ Kept (fun _ => False) w w' := by
  refine h.mono ?_
  rintro e w' ⟨rfl, hb⟩
  refine ⟨_, _, I, rfl, rfl, ?_, fun b hIb => ⟨Nat.lt_of_lt_of_le (hI b hIb) hb.size, .inl hIb⟩, kept_below hb⟩
  have := Pr.str (w := w') (I := I) (⟨s.toArray⟩ : ByteArray) (by simp only [ByteArray.size, List.size_toArray, maxLen]; omega)
  simpa using this

def renJoin : Ren := {
  f := fun x => match x with | 156 => 23 | 165 => 47 | 166 => 48 | 169 => 37 | 240 => 62 | 241 => 70 | 276 => 83 | 277 => 88 | n => n
  t := fun x => match x with | 31 => 37 | 9 => 9 | 3 => 3 | 4 => 4 | 0 => 0 | 20 => 20 | 72 => 47 | 76 => 53 | 70 => 44 | 37 => 45 | 75 => 52 | 127 => 96 | 164 => 111 | 5 => 5 | 80 => 56 | n => n
  g := fun x => x }
theorem laysJoin : Lays.n156 Tryd.prog renJoin := {
  mixed := by kernel_rfl
  f156 := Tryd.func23.trans (congrArg some (by kernel_rfl))
  f165 := Tryd.func47.trans (congrArg some (by kernel_rfl))
  f166 := Tryd.func48.trans (congrArg some (by kernel_rfl))
  f169 := Tryd.func37.trans (congrArg some (by kernel_rfl))
  f240 := Tryd.func62.trans (congrArg some (by kernel_rfl))
  f241 := Tryd.func70.trans (congrArg some (by kernel_rfl))
  f276 := Tryd.func83.trans (congrArg some (by kernel_rfl))
  f277 := Tryd.func88.trans (congrArg some (by kernel_rfl))
  t0 := Tryd.underlying0
  a0 := Tryd.isAgg0
  z0 := Tryd.sizeOf0
  v0 := Tryd.zeroValue0
  t3 := Tryd.underlying3
  a3 := Tryd.isAgg3
  z3 := Tryd.sizeOf3
  v3 := Tryd.zeroValue3
  t4 := Tryd.underlying4
  a4 := Tryd.isAgg4
  z4 := Tryd.sizeOf4
  v4 := Tryd.zeroValue4
  t9 := Tryd.underlying9
  a9 := Tryd.isAgg9
  z9 := Tryd.sizeOf9
  v9 := Tryd.zeroValue9
  t20 := Tryd.underlying20
  a20 := Tryd.isAgg20
  z20 := Tryd.sizeOf20
  v20 := Tryd.zeroValue20
  t31 := Tryd.underlying37
  a31 := Tryd.isAgg37
  z31 := Tryd.sizeOf37
  v31 := Tryd.zeroValue37
  t37 := Tryd.underlying45
  a37 := Tryd.isAgg45
  z37 := Tryd.sizeOf45
  v37 := Tryd.zeroValue45
  t70 := Tryd.underlying44
  a70 := Tryd.isAgg44
  z70 := Tryd.sizeOf44
  v70 := Tryd.zeroValue44
  t72 := Tryd.underlying47
  a72 := Tryd.isAgg47
  z72 := Tryd.sizeOf47
  v72 := Tryd.zeroValue47
  t75 := Tryd.underlying52
  a75 := Tryd.isAgg52
  z75 := Tryd.sizeOf52
  v75 := Tryd.zeroValue52
  t76 := Tryd.underlying53
  a76 := Tryd.isAgg53
  z76 := Tryd.sizeOf53
  v76 := Tryd.zeroValue53
  t127 := Tryd.underlying96
  a127 := Tryd.isAgg96
  z127 := Tryd.sizeOf96
  v127 := Tryd.zeroValue96
  t164 := Tryd.underlying111
  a164 := Tryd.isAgg111
  z164 := Tryd.sizeOf111
  v164 := Tryd.zeroValue111 }
theorem extraJoin : Builder.Extra Tryd.prog renJoin := {
  sizeBuilder := by kernel_rfl
  liesBuilder := by kernel_rfl
  t5 := Tryd.underlying5
  a5 := Tryd.isAgg5
  z5 := Tryd.sizeOf5
  v5 := Tryd.zeroValue5
  infoByte := by kernel_rfl
  cellsByte := by kernel_rfl
  sizeByte := by kernel_rfl
  neB5 := by decide }
theorem join_strs (xs : List (List UInt8)) (sep : List UInt8) (h1 : xs.length ≤ 140737488355328) (h2 : (Lib.join xs sep).length ≤ 140737488355328) : Fn1 Tryd.prog 23 [.lst (xs.map V.str), .str sep] (fun r => r = .str (Lib.join xs sep)) := by
  intro w I vs hl hv hI
  obtain ⟨v0, v1, rfl⟩ : ∃ v0 v1, vs = [v0, v1] := by
    match vs, hl with
    | [a, b], _ => exact ⟨a, b, rfl⟩
  have p0 := hv 0 v0 _ rfl rfl
  obtain ⟨rfl, hsl⟩ := pr_str_inv (hv 1 v1 _ rfl rfl)
  refine fn1_str hI h2 ?_
  rcases pr_strs_inv p0 with ⟨a, c, rfl, rfl⟩ | ⟨b, off, c, rfl, hb, hc, hcell⟩
  · refine (Any.strings_Join_none laysJoin extraJoin a c ⟨sep.toArray⟩ w).mono ?_
    rintro e w' ⟨rfl, rfl⟩
    exact ⟨rfl, Below.refl _ _⟩
  · have hm : (xs.map fun x => (⟨x.toArray⟩ : ByteArray)).map (fun x => x.data.toList) = xs := by
      rw [List.map_map]
      exact (List.map_congr_left (g := id) (fun x _ => by simp)).trans (List.map_id xs)
    have hlen : (xs.map fun x => (⟨x.toArray⟩ : ByteArray)).length = xs.length := by simp
    have := Any.strings_Join laysJoin extraJoin b off c (xs.map fun x => (⟨x.toArray⟩ : ByteArray)) ⟨sep.toArray⟩ w hcell (hI b hb) (by rw [hlen]; exact h1) (by rw [hlen]; exact hc) (by rw [hm]; simpa using h2)
    rw [hm, hlen] at this
    exact this.mono fun e w' h => by simpa using h
end Go.Proofs.YtaeeceabnkgnnaaDoor
