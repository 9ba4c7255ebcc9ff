/- strings.Cut and strings.Trim by the kit's contracts. No conditions. -/
import Derived.Test.YtkkcmobnhiiacaaDoorOwn
import Derived.Shelf.Strings.OnBuilder
import Derived.Shelf.Strings.Cut
import Derived.Shelf.Strings.SlTrimAscii
import Derived.Shelf.Vars
/-! strings.Join by the kit's contract. No conditions. -/
set_option linter.unusedSimpArgs false
set_option linter.unusedVariables false
set_option maxRecDepth 100000
namespace Go.Proofs.YtkkcmobnhiiacaaDoor
open Go.RowKit Go.Shelf

/-! ### From the kit's contracts to ours -/
theorem kept_below {w w' : World} (h : Below w.heap.size w w') : Kept (fun _ => False) w w' := by
  refine ⟨h.os, h.tape, h.output, h.size, fun k hk _ => h.block k hk, fun b s hs => ?_⟩
  have hb : b < w.heap.size := by
    rcases Nat.lt_or_ge b w.heap.size with hb | hb
    · exact hb
    · simp only [World.shape?, Array.getElem?_eq_none hb] at hs
      cases hs
  simp only [World.shape?] at hs ⊢
  rw [h.block b hb]
  exact hs
theorem pr_str_inv {w : World} {I : Nat → Prop} {v : Value} {s : List UInt8} (h : Pr w I v (.str s)) : v = .string ⟨s.toArray⟩ ∧ s.length ≤ maxLen := by
  generalize hx : V.str s = x at h
  cases h with
  | str t ht =>
    cases hx
    exact ⟨by simp, by rw [Array.length_toList]; exact ht⟩
  | _ => cases hx
/-- A list of strings, as the world holds it. -/
theorem pr_strs_inv {w : World} {I : Nat → Prop} {v : Value} {xs : List (List UInt8)} (h : Pr w I v (.lst (xs.map V.str))) : (∃ a c, v = .slice a 0 c ∧ xs = []) ∨
    ∃ b off c, v = .slice (some ⟨b, off, none⟩) xs.length c ∧ I b ∧ xs.length ≤ c ∧ ∀ (j : Nat) x, (xs.map fun x => (⟨x.toArray⟩ : ByteArray))[j]? = some x → w.cell? ⟨b, off + j, none⟩ = some (.string x) := by
  generalize hL : xs.map V.str = L at h
  generalize hx : V.lst L = y at h
  cases h with
  | lnil a c =>
    cases hx
    refine .inl ⟨a, c, rfl, ?_⟩
    simpa using hL
  | lst b off c z l u hI hlc hcm hz hcell hone hpr =>
    cases hx
    subst hL
    by_cases h0 : xs = []
    · subst h0
      exact .inl ⟨_, c, rfl, rfl⟩
    · have hl : 0 < xs.length := List.length_pos_iff.2 h0
      have hz1 : z = 1 := by
        have := hz 0 (.str xs[0]) (by simp [List.getElem?_eq_getElem hl])
        simpa [V.cells] using this.symm
      subst hz1
      refine .inr ⟨b, off, c, by simp, hI, by simpa using hlc, fun j x hj => ?_⟩
      rw [List.getElem?_map, Option.map_eq_some_iff] at hj
      obtain ⟨s, hs, rfl⟩ := hj
      have hjl := (List.getElem?_eq_some_iff.1 hs).1
      have h1 := hcell j 0 (by simpa using hjl) (by decide)
      have h2 := hpr j (.str s) 0 (.str s) (by simp [hs]) rfl
      rw [(pr_str_inv h2).1] at h1
      simpa using h1
  | _ => cases hx
theorem fn1_str {P : Program} {f : FuncId} {w : World} {I : Nat → Prop} {vs : List Value} {s : List UInt8} (hI : ∀ b, I b → b < w.heap.size) (hs : s.length ≤ 140737488355328)
    (h : Calls P f vs.toArray w fun e w' => e = .returned (.string ⟨s.toArray⟩) ∧ Below w.heap.size w w') :
    Calls P f vs.toArray w fun e w' => ∃ v r I', e = .returned v ∧ r = V.str s ∧ Pr w' I' v r ∧ (∀ b, I' b → b < w'.heap.size ∧ (I b ∨ w.heap.size ≤ b)) ∧ Kept (fun _ => False) w w' := by
  refine h.mono ?_
  rintro e w' ⟨rfl, hb⟩
  refine ⟨_, _, I, rfl, rfl, ?_, fun b hIb => ⟨Nat.lt_of_lt_of_le (hI b hIb) hb.size, .inl hIb⟩, kept_below hb⟩
  have := Pr.str (w := w') (I := I) (⟨s.toArray⟩ : ByteArray) (by simp only [ByteArray.size, List.size_toArray, maxLen]; omega)
  simpa using this

end Go.Proofs.YtkkcmobnhiiacaaDoor

/-! strings.Cut and strings.Trim by the kit's contracts. No conditions. -/
namespace Go.Proofs.YtkkcmobnhiiacaaDoor
open Go.RowKit Go.Shelf

def renCut : Ren := {
  f := fun x => match x with | 145 => 24 | 220 => 56 | 219 => 85 | 217 => 101 | 225 => 102 | 224 => 103 | 267 => 104 | 266 => 113 | 314 => 114 | n => n
  t := fun x => match x with | 9 => 9 | 4 => 4 | 59 => 60 | 3 => 3 | 5 => 5 | 46 => 160 | 146 => 172 | 51 => 171 | n => n
  g := fun x => match x with | 1 => 2 | n => n }
theorem laysCut : Lays.n145 Tryd.prog renCut := {
  mixed := by kernel_rfl
  f145 := Tryd.func24.trans (congrArg some (by kernel_rfl))
  f217 := Tryd.func101.trans (congrArg some (by kernel_rfl))
  f219 := Tryd.func85.trans (congrArg some (by kernel_rfl))
  f220 := Tryd.func56.trans (congrArg some (by kernel_rfl))
  f224 := Tryd.func103.trans (congrArg some (by kernel_rfl))
  f225 := Tryd.func102.trans (congrArg some (by kernel_rfl))
  f266 := Tryd.func113.trans (congrArg some (by kernel_rfl))
  f267 := Tryd.func104.trans (congrArg some (by kernel_rfl))
  f314 := Tryd.func114.trans (congrArg some (by kernel_rfl))
  t3 := Tryd.underlying3
  a3 := Tryd.isAgg3
  z3 := Tryd.sizeOf3
  v3 := Tryd.zeroValue3
  t4 := Tryd.underlying4
  a4 := Tryd.isAgg4
  z4 := Tryd.sizeOf4
  v4 := Tryd.zeroValue4
  t5 := Tryd.underlying5
  a5 := Tryd.isAgg5
  z5 := Tryd.sizeOf5
  v5 := Tryd.zeroValue5
  t9 := Tryd.underlying9
  a9 := Tryd.isAgg9
  z9 := Tryd.sizeOf9
  v9 := Tryd.zeroValue9
  t46 := Tryd.underlying160
  a46 := Tryd.isAgg160
  z46 := Tryd.sizeOf160
  v46 := Tryd.zeroValue160
  t51 := Tryd.underlying171
  a51 := Tryd.isAgg171
  z51 := Tryd.sizeOf171
  v51 := Tryd.zeroValue171
  t59 := Tryd.underlying60
  a59 := Tryd.isAgg60
  z59 := Tryd.sizeOf60
  v59 := Tryd.zeroValue60
  t146 := Tryd.underlying172
  a146 := Tryd.isAgg172
  z146 := Tryd.sizeOf172
  v146 := Tryd.zeroValue172
  g1 := by kernel_rfl }
/-- internal/bytealg.MaxLen holds some number. -/
def GM (w : World) : Prop := ∃ m, w.cell? ⟨renCut.g 1, 0, none⟩ = some (.int .i64 m)
theorem kept_gm : KeptG GM := fun w w' hk ⟨m, h⟩ => by
  refine ⟨m, ?_⟩
  rcases Nat.lt_or_ge (renCut.g 1) w.heap.size with hlt | hlt
  · rw [World.cell?_of_block (w := w) (w' := w') (a := ⟨renCut.g 1, 0, none⟩) (hk.block (renCut.g 1) hlt (fun h => h))]
    exact h
  · exfalso
    simp only [World.cell?, Array.getElem?_eq_none hlt] at h
    cases h
theorem gm_of_shape (w : World) (h : w.ShapedOpen Tryd.prog) : GM w :=
  cell_of_shapedOpen_int (zero := #[.int .i64 0]) (t := 3) h (of_decide_eq_true (by kernel_rfl)) (by kernel_rfl) rfl (by kernel_rfl) (by kernel_rfl) Tryd.underlying3
theorem pr_str_mk {w : World} {I : Nat → Prop} {s : List UInt8} (h : s.length ≤ maxLen) : Pr w I (.string ⟨s.toArray⟩) (.str s) := by
  have := Pr.str (w := w) (I := I) (⟨s.toArray⟩ : ByteArray) (by simpa [ByteArray.size] using h)
  simpa using this
theorem cut_len (s sep : List UInt8) : (Lib.cut s sep).1.length ≤ s.length ∧ (Lib.cut s sep).2.1.length ≤ s.length := by
  unfold Lib.cut
  split
  · simp only [List.length_take, List.length_drop]; omega
  · simp
theorem cut_walk (s sep : List UInt8) (hs : s.length < 4294967281) : Fn1G Tryd.prog GM 24 [.str s, .str sep] (fun r => r = .tup [.str (Lib.cut s sep).1, .str (Lib.cut s sep).2.1, .bool (Lib.cut s sep).2.2]) := by
  intro w I vs hG hl hv hI
  obtain ⟨v0, v1, rfl⟩ : ∃ v0 v1, vs = [v0, v1] := by
    match vs, hl with
    | [a, b], _ => exact ⟨a, b, rfl⟩
  obtain ⟨rfl, hs1⟩ := pr_str_inv (hv 0 v0 _ rfl rfl)
  obtain ⟨rfl, _⟩ := pr_str_inv (hv 1 v1 _ rfl rfl)
  obtain ⟨m, hm⟩ := hG
  have hcl := cut_len s sep
  refine (Any.strings_Cut laysCut ⟨s.toArray⟩ ⟨sep.toArray⟩ m w (by simpa [ByteArray.size] using hs) hm).mono ?_
  rintro e w' ⟨rfl, n, rfl⟩
  refine ⟨_, _, I, rfl, rfl, ?_, fun b hb => ⟨hI b hb, .inl hb⟩, ?_⟩
  · refine Pr.tup [.string ⟨(Lib.cut s sep).1.toArray⟩, .string ⟨(Lib.cut s sep).2.1.toArray⟩, .bool (Lib.cut s sep).2.2] _ rfl fun i v c hv' hc => ?_
    match i, hv', hc with
    | 0, hv', hc => cases hv'; cases hc; exact pr_str_mk (by omega)
    | 1, hv', hc => cases hv'; cases hc; exact pr_str_mk (by omega)
    | 2, hv', hc => cases hv'; cases hc; exact .bool _
    | k + 3, hv', _ => simp at hv'
  · exact ⟨rfl, rfl, rfl, Nat.le_refl _, fun _ _ _ => rfl, fun _ _ h => h⟩
end Go.Proofs.YtkkcmobnhiiacaaDoor
