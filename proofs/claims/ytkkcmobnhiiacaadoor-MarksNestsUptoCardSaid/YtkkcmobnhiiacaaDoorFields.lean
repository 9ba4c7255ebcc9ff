/- strings.Fields upon a text of ASCII, by the kit's contract, where the library's table holds what it was laid with. No conditions. -/
import Derived.Test.YtkkcmobnhiiacaaDoorOwn
import Derived.Shelf.Strings.Fields
set_option linter.unusedSimpArgs false
set_option linter.unusedVariables false
set_option maxRecDepth 100000
namespace Go.Proofs.YtkkcmobnhiiacaaDoor
open Go.RowKit Go.Shelf

/-- strings.asciiSpace as it was laid. -/
def GA (w : World) : Prop := Lib.TabIs Tryd.prog w "strings.asciiSpace" .u8 Lib.asciiSpaceTab
theorem named_ga : Tryd.prog.globalNamed "strings.asciiSpace" = some 3 := by kernel_rfl
theorem kept_ga : KeptG GA := fun w w' hk h => by
  unfold GA Lib.TabIs World.var? at h ⊢
  rw [named_ga] at h ⊢
  simp only [Option.bind_some] at h ⊢
  rcases Nat.lt_or_ge 3 w.heap.size with hlt | hlt
  · rw [hk.block 3 hlt (fun h => h)]
    exact h
  · rw [Array.getElem?_eq_none hlt] at h
    cases h
theorem kept_alloc0 (w : World) (o : Obj) : Kept (fun _ => False) w (w.alloc o) := (Kept.refl _ w).alloc o
theorem size_alloc (w : World) (o : Obj) : (w.alloc o).heap.size = w.heap.size + 1 := Array.size_push _
theorem cell_new1 (w : World) (cur : Array Value) (e : TypeId) (j : Nat) : (w.alloc (.cells cur e)).cell? ⟨w.heap.size, j, none⟩ = cur[j]? :=
  cell_of_row _ _ _ cur e (0, 0) (by rw [World.alloc_heap_new])
theorem pr_strI {w : World} {I : Nat → Prop} {v : Value} {s : List UInt8} (h : Pr w I v (.str s)) : v = .string ⟨s.toArray⟩ ∧ s.length ≤ maxLen := by
  generalize hx : V.str s = x at h
  cases h with
  | str t ht =>
    cases hx
    exact ⟨by simp, by rw [Array.length_toList]; exact ht⟩
  | _ => cases hx
/-- A new row of strings. -/
theorem pr_new_strs (w : World) (I : Nat → Prop) (xs : List (List UInt8)) (e : TypeId) (h1 : xs.length ≤ maxLen) (h2 : ∀ x ∈ xs, x.length ≤ maxLen) :
    Pr (w.alloc (.cells (xs.map fun l => Value.string ⟨l.toArray⟩).toArray e)) (fun b => I b ∨ b = w.heap.size) (.slice (some ⟨w.heap.size, 0, none⟩) xs.length xs.length) (.lst (xs.map V.str)) := by
  have h := Pr.lst (w := w.alloc (.cells (xs.map fun l => Value.string ⟨l.toArray⟩).toArray e)) (I := fun b => I b ∨ b = w.heap.size) w.heap.size 0 xs.length 1 (xs.map V.str) (fun i _ => (xs[i]?.map fun l => Value.string ⟨l.toArray⟩).getD (.bool true)) (.inr rfl) (by simp) h1 ?_ ?_ ?_ ?_
  · simpa using h
  · intro i x hx
    rw [List.getElem?_map, Option.map_eq_some_iff] at hx
    obtain ⟨y, _, rfl⟩ := hx
    rfl
  · intro i j hi hj
    obtain rfl : j = 0 := by omega
    have hi' : i < xs.length := by simpa using hi
    rw [cell_new1]
    simp [List.getElem?_eq_getElem hi']
  · intro i j
    cases xs[i]? <;> rfl
  · intro i x j c hx hc
    rw [List.getElem?_map, Option.map_eq_some_iff] at hx
    obtain ⟨y, hy, rfl⟩ := hx
    cases j with
    | zero =>
      simp only [V.cells, List.getElem?_cons_zero, Option.some.injEq] at hc
      subst hc
      rw [hy]
      have := Pr.str (w := w.alloc (.cells (xs.map fun l => Value.string ⟨l.toArray⟩).toArray e)) (I := fun b => I b ∨ b = w.heap.size) (⟨y.toArray⟩ : ByteArray) (by
        have := h2 y (List.mem_iff_getElem?.2 ⟨i, hy⟩)
        simpa [ByteArray.size] using this)
      simpa using this
    | succ j => simp [V.cells] at hc

def renFields : Ren := {
  f := fun x => match x with | 157 => 97 | 229 => 111 | 199 => 112 | 261 => 117 | 311 => 119 | 312 => 120 | n => n
  t := fun x => match x with | 9 => 9 | 31 => 22 | 3 => 3 | 5 => 5 | 4 => 4 | 119 => 177 | 0 => 0 | 40 => 151 | 152 => 184 | 21 => 21 | 154 => 186 | 51 => 171 | 141 => 188 | 196 => 193 | 193 => 190 | 198 => 196 | 49 => 194 | 194 => 191 | 201 => 199 | 226 => 206 | 46 => 160 | 227 => 207 | n => n
  g := fun x => match x with | 0 => 3 | 6 => 6 | n => n }
theorem laysFields : Lays.n157 Tryd.prog renFields := {
  mixed := by kernel_rfl
  f157 := Tryd.func97.trans (congrArg some (by kernel_rfl))
  f199 := Tryd.func112.trans (congrArg some (by kernel_rfl))
  f229 := Tryd.func111.trans (congrArg some (by kernel_rfl))
  f261 := Tryd.func117.trans (congrArg some (by kernel_rfl))
  f311 := Tryd.func119.trans (congrArg some (by kernel_rfl))
  f312 := Tryd.func120.trans (congrArg some (by kernel_rfl))
  t0 := Tryd.underlying0
  a0 := Tryd.isAgg0
  z0 := Tryd.sizeOf0
  v0 := Tryd.zeroValue0
  t3 := Tryd.underlying3
  a3 := Tryd.isAgg3
  z3 := Tryd.sizeOf3
  v3 := Tryd.zeroValue3
  t4 := Tryd.underlying4
  a4 := Tryd.isAgg4
  z4 := Tryd.sizeOf4
  v4 := Tryd.zeroValue4
  t5 := Tryd.underlying5
  a5 := Tryd.isAgg5
  z5 := Tryd.sizeOf5
  v5 := Tryd.zeroValue5
  t9 := Tryd.underlying9
  a9 := Tryd.isAgg9
  z9 := Tryd.sizeOf9
  v9 := Tryd.zeroValue9
  t21 := Tryd.underlying21
  a21 := Tryd.isAgg21
  z21 := Tryd.sizeOf21
  v21 := Tryd.zeroValue21
  t31 := Tryd.underlying22
  a31 := Tryd.isAgg22
  z31 := Tryd.sizeOf22
  v31 := Tryd.zeroValue22
  t40 := Tryd.underlying151
  a40 := Tryd.isAgg151
  z40 := Tryd.sizeOf151
  v40 := Tryd.zeroValue151
  t46 := Tryd.underlying160
  a46 := Tryd.isAgg160
  z46 := Tryd.sizeOf160
  v46 := Tryd.zeroValue160
  t49 := Tryd.underlying194
  a49 := Tryd.isAgg194
  z49 := Tryd.sizeOf194
  v49 := Tryd.zeroValue194
  t51 := Tryd.underlying171
  a51 := Tryd.isAgg171
  z51 := Tryd.sizeOf171
  v51 := Tryd.zeroValue171
  t119 := Tryd.underlying177
  a119 := Tryd.isAgg177
  z119 := Tryd.sizeOf177
  t141 := Tryd.underlying188
  a141 := Tryd.isAgg188
  z141 := Tryd.sizeOf188
  v141 := Tryd.zeroValue188
  t152 := Tryd.underlying184
  a152 := Tryd.isAgg184
  z152 := Tryd.sizeOf184
  v152 := Tryd.zeroValue184
  t154 := Tryd.underlying186
  a154 := Tryd.isAgg186
  z154 := Tryd.sizeOf186
  v154 := Tryd.zeroValue186
  t193 := Tryd.underlying190
  a193 := Tryd.isAgg190
  z193 := Tryd.sizeOf190
  v193 := Tryd.zeroValue190
  t194 := Tryd.underlying191
  a194 := Tryd.isAgg191
  z194 := Tryd.sizeOf191
  v194 := Tryd.zeroValue191
  t196 := Tryd.underlying193
  a196 := Tryd.isAgg193
  z196 := Tryd.sizeOf193
  v196 := Tryd.zeroValue193
  t198 := Tryd.underlying196
  a198 := Tryd.isAgg196
  z198 := Tryd.sizeOf196
  v198 := Tryd.zeroValue196
  t201 := Tryd.underlying199
  a201 := Tryd.isAgg199
  z201 := Tryd.sizeOf199
  v201 := Tryd.zeroValue199
  t226 := Tryd.underlying206
  a226 := Tryd.isAgg206
  z226 := Tryd.sizeOf206
  v226 := Tryd.zeroValue206
  t227 := Tryd.underlying207
  a227 := Tryd.isAgg207
  z227 := Tryd.sizeOf207
  v227 := Tryd.zeroValue207
  g0 := by kernel_rfl
  g6 := by kernel_rfl }
theorem fields_g (s : List UInt8) (hs : s.length < 4294967281) (ha : (s.all fun b => decide (b.toNat < 128)) = true) (h1 : (Lib.fields s).length ≤ maxLen) (h2 : ∀ x ∈ Lib.fields s, x.length ≤ maxLen) :
    Fn1G Tryd.prog GA 97 [.str s] (fun r => r = .lst ((Lib.fields s).map V.str)) := by
  intro w I vs hG hl hv hI
  obtain ⟨v0, rfl⟩ : ∃ v0, vs = [v0] := by
    match vs, hl with
    | [a], _ => exact ⟨a, rfl⟩
  obtain ⟨rfl, hsl⟩ := pr_strI (hv 0 v0 _ rfl rfl)
  have h := Any.strings_Fields laysFields (by kernel_rfl) named_ga ⟨s.toArray⟩ w (by simpa [ByteArray.size] using hs) (fun j b hb => by
    have := List.all_eq_true.1 ha b (List.mem_iff_getElem?.2 ⟨j, by simpa using hb⟩)
    simpa using this) hG
  have e : (⟨s.toArray⟩ : ByteArray).data.toList = s := by simp
  rw [e] at h
  refine h.mono ?_
  rintro e w' ⟨rfl, rfl⟩
  refine ⟨_, _, _, rfl, rfl, pr_new_strs w I (Lib.fields s) _ h1 h2, fun b hb => ?_, kept_alloc0 w _⟩
  rw [size_alloc]
  rcases hb with hb | rfl
  · exact ⟨Nat.lt_succ_of_lt (hI b hb), .inl hb⟩
  · exact ⟨Nat.lt_succ_self _, .inr (Nat.le_refl _)⟩
end Go.Proofs.YtkkcmobnhiiacaaDoor
