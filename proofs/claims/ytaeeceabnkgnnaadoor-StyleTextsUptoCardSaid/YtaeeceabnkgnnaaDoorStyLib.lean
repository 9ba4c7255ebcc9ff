/- strings.Cut and strings.Trim by the kit's contracts. No conditions. -/
import Derived.Test.YtaeeceabnkgnnaaDoorJoin
import Derived.Shelf.Strings.Cut
import Derived.Shelf.Strings.SlTrimAscii
import Derived.Shelf.Vars
set_option linter.unusedSimpArgs false
set_option linter.unusedVariables false
set_option maxRecDepth 100000
namespace Go.Proofs.YtaeeceabnkgnnaaDoor
open Go.RowKit Go.Shelf

def renCut : Ren := {
  f := fun x => match x with | 145 => 42 | 220 => 67 | 219 => 85 | 217 => 58 | 225 => 102 | 224 => 103 | 267 => 104 | 266 => 78 | 314 => 117 | n => n
  t := fun x => match x with | 9 => 9 | 4 => 4 | 59 => 61 | 3 => 3 | 5 => 5 | 46 => 132 | 146 => 158 | 51 => 78 | n => n
  g := fun x => match x with | 1 => 0 | n => n }
theorem laysCut : Lays.n145 Tryd.prog renCut := {
  mixed := by kernel_rfl
  f145 := Tryd.func42.trans (congrArg some (by kernel_rfl))
  f217 := Tryd.func58.trans (congrArg some (by kernel_rfl))
  f219 := Tryd.func85.trans (congrArg some (by kernel_rfl))
  f220 := Tryd.func67.trans (congrArg some (by kernel_rfl))
  f224 := Tryd.func103.trans (congrArg some (by kernel_rfl))
  f225 := Tryd.func102.trans (congrArg some (by kernel_rfl))
  f266 := Tryd.func78.trans (congrArg some (by kernel_rfl))
  f267 := Tryd.func104.trans (congrArg some (by kernel_rfl))
  f314 := Tryd.func117.trans (congrArg some (by kernel_rfl))
  t3 := Tryd.underlying3
  a3 := Tryd.isAgg3
  z3 := Tryd.sizeOf3
  v3 := Tryd.zeroValue3
  t4 := Tryd.underlying4
  a4 := Tryd.isAgg4
  z4 := Tryd.sizeOf4
  v4 := Tryd.zeroValue4
  t5 := Tryd.underlying5
  a5 := Tryd.isAgg5
  z5 := Tryd.sizeOf5
  v5 := Tryd.zeroValue5
  t9 := Tryd.underlying9
  a9 := Tryd.isAgg9
  z9 := Tryd.sizeOf9
  v9 := Tryd.zeroValue9
  t46 := Tryd.underlying132
  a46 := Tryd.isAgg132
  z46 := Tryd.sizeOf132
  v46 := Tryd.zeroValue132
  t51 := Tryd.underlying78
  a51 := Tryd.isAgg78
  z51 := Tryd.sizeOf78
  v51 := Tryd.zeroValue78
  t59 := Tryd.underlying61
  a59 := Tryd.isAgg61
  z59 := Tryd.sizeOf61
  v59 := Tryd.zeroValue61
  t146 := Tryd.underlying158
  a146 := Tryd.isAgg158
  z146 := Tryd.sizeOf158
  v146 := Tryd.zeroValue158
  g1 := by kernel_rfl }
def renTrim : Ren := {
  f := fun x => match x with | 160 => 25 | 232 => 50 | 231 => 49 | 227 => 51 | 234 => 53 | 233 => 52 | 236 => 55 | 235 => 54 | 228 => 71 | 271 => 74 | 151 => 73 | 197 => 72 | 120 => 91 | 152 => 90 | 260 => 89 | 137 => 33 | 119 => 82 | 224 => 103 | 225 => 102 | 217 => 58 | 266 => 78 | n => n
  t := fun x => match x with | 9 => 9 | 4 => 4 | 3 => 3 | 5 => 5 | 117 => 71 | 116 => 70 | 0 => 0 | 124 => 74 | 21 => 21 | 105 => 102 | 46 => 132 | 119 => 124 | 139 => 136 | 138 => 135 | n => n
  g := fun x => match x with | 3 => 1 | 4 => 2 | n => n }
theorem laysTrim : Lays.n160 Tryd.prog renTrim := {
  mixed := by kernel_rfl
  f119 := Tryd.func82.trans (congrArg some (by kernel_rfl))
  f120 := Tryd.func91.trans (congrArg some (by kernel_rfl))
  f137 := Tryd.func33.trans (congrArg some (by kernel_rfl))
  f151 := Tryd.func73.trans (congrArg some (by kernel_rfl))
  f152 := Tryd.func90.trans (congrArg some (by kernel_rfl))
  f160 := Tryd.func25.trans (congrArg some (by kernel_rfl))
  f197 := Tryd.func72.trans (congrArg some (by kernel_rfl))
  f217 := Tryd.func58.trans (congrArg some (by kernel_rfl))
  f224 := Tryd.func103.trans (congrArg some (by kernel_rfl))
  f225 := Tryd.func102.trans (congrArg some (by kernel_rfl))
  f227 := Tryd.func51.trans (congrArg some (by kernel_rfl))
  f228 := Tryd.func71.trans (congrArg some (by kernel_rfl))
  f231 := Tryd.func49.trans (congrArg some (by kernel_rfl))
  f232 := Tryd.func50.trans (congrArg some (by kernel_rfl))
  f233 := Tryd.func52.trans (congrArg some (by kernel_rfl))
  f234 := Tryd.func53.trans (congrArg some (by kernel_rfl))
  f235 := Tryd.func54.trans (congrArg some (by kernel_rfl))
  f236 := Tryd.func55.trans (congrArg some (by kernel_rfl))
  f260 := Tryd.func89.trans (congrArg some (by kernel_rfl))
  f266 := Tryd.func78.trans (congrArg some (by kernel_rfl))
  f271 := Tryd.func74.trans (congrArg some (by kernel_rfl))
  t0 := Tryd.underlying0
  a0 := Tryd.isAgg0
  z0 := Tryd.sizeOf0
  v0 := Tryd.zeroValue0
  t3 := Tryd.underlying3
  a3 := Tryd.isAgg3
  z3 := Tryd.sizeOf3
  v3 := Tryd.zeroValue3
  t4 := Tryd.underlying4
  a4 := Tryd.isAgg4
  z4 := Tryd.sizeOf4
  v4 := Tryd.zeroValue4
  t5 := Tryd.underlying5
  a5 := Tryd.isAgg5
  z5 := Tryd.sizeOf5
  v5 := Tryd.zeroValue5
  t9 := Tryd.underlying9
  a9 := Tryd.isAgg9
  z9 := Tryd.sizeOf9
  v9 := Tryd.zeroValue9
  t21 := Tryd.underlying21
  a21 := Tryd.isAgg21
  z21 := Tryd.sizeOf21
  v21 := Tryd.zeroValue21
  t46 := Tryd.underlying132
  a46 := Tryd.isAgg132
  z46 := Tryd.sizeOf132
  v46 := Tryd.zeroValue132
  t105 := Tryd.underlying102
  a105 := Tryd.isAgg102
  z105 := Tryd.sizeOf102
  v105 := Tryd.zeroValue102
  t116 := Tryd.underlying70
  a116 := Tryd.isAgg70
  z116 := Tryd.sizeOf70
  t117 := Tryd.underlying71
  a117 := Tryd.isAgg71
  z117 := Tryd.sizeOf71
  v117 := Tryd.zeroValue71
  t119 := Tryd.underlying124
  a119 := Tryd.isAgg124
  z119 := Tryd.sizeOf124
  t124 := Tryd.underlying74
  a124 := Tryd.isAgg74
  z124 := Tryd.sizeOf74
  v124 := Tryd.zeroValue74
  t138 := Tryd.underlying135
  a138 := Tryd.isAgg135
  z138 := Tryd.sizeOf135
  v138 := Tryd.zeroValue135
  t139 := Tryd.underlying136
  a139 := Tryd.isAgg136
  z139 := Tryd.sizeOf136
  v139 := Tryd.zeroValue136
  g3 := by kernel_rfl
  g4 := by kernel_rfl }
/-- internal/bytealg.MaxLen holds some number. -/
def GM (w : World) : Prop := ∃ m, w.cell? ⟨renCut.g 1, 0, none⟩ = some (.int .i64 m)
theorem kept_gm : KeptG GM := fun w w' hk ⟨m, h⟩ => by
  refine ⟨m, ?_⟩
  rcases Nat.lt_or_ge (renCut.g 1) w.heap.size with hlt | hlt
  · rw [World.cell?_of_block (w := w) (w' := w') (a := ⟨renCut.g 1, 0, none⟩) (hk.block (renCut.g 1) hlt (fun h => h))]
    exact h
  · exfalso
    simp only [World.cell?, Array.getElem?_eq_none hlt] at h
    cases h
theorem gm_of_shape (w : World) (h : w.ShapedOpen Tryd.prog) : GM w :=
  cell_of_shapedOpen_int (zero := #[.int .i64 0]) (t := 3) h (of_decide_eq_true (by kernel_rfl)) (by kernel_rfl) rfl (by kernel_rfl) (by kernel_rfl) Tryd.underlying3
theorem pr_str_mk {w : World} {I : Nat → Prop} {s : List UInt8} (h : s.length ≤ maxLen) : Pr w I (.string ⟨s.toArray⟩) (.str s) := by
  have := Pr.str (w := w) (I := I) (⟨s.toArray⟩ : ByteArray) (by simpa [ByteArray.size] using h)
  simpa using this
theorem cut_len (s sep : List UInt8) : (Lib.cut s sep).1.length ≤ s.length ∧ (Lib.cut s sep).2.1.length ≤ s.length := by
  unfold Lib.cut
  split
  · simp only [List.length_take, List.length_drop]; omega
  · simp
theorem cut_walk (s sep : List UInt8) (hs : s.length < 4294967281) : Fn1G Tryd.prog GM 42 [.str s, .str sep] (fun r => r = .tup [.str (Lib.cut s sep).1, .str (Lib.cut s sep).2.1, .bool (Lib.cut s sep).2.2]) := by
  intro w I vs hG hl hv hI
  obtain ⟨v0, v1, rfl⟩ : ∃ v0 v1, vs = [v0, v1] := by
    match vs, hl with
    | [a, b], _ => exact ⟨a, b, rfl⟩
  obtain ⟨rfl, hs1⟩ := pr_str_inv (hv 0 v0 _ rfl rfl)
  obtain ⟨rfl, _⟩ := pr_str_inv (hv 1 v1 _ rfl rfl)
  obtain ⟨m, hm⟩ := hG
  have hcl := cut_len s sep
  refine (Any.strings_Cut laysCut ⟨s.toArray⟩ ⟨sep.toArray⟩ m w (by simpa [ByteArray.size] using hs) hm).mono ?_
  rintro e w' ⟨rfl, n, rfl⟩
  refine ⟨_, _, I, rfl, rfl, ?_, fun b hb => ⟨hI b hb, .inl hb⟩, ?_⟩
  · refine Pr.tup [.string ⟨(Lib.cut s sep).1.toArray⟩, .string ⟨(Lib.cut s sep).2.1.toArray⟩, .bool (Lib.cut s sep).2.2] _ rfl fun i v c hv' hc => ?_
    match i, hv', hc with
    | 0, hv', hc => cases hv'; cases hc; exact pr_str_mk (by omega)
    | 1, hv', hc => cases hv'; cases hc; exact pr_str_mk (by omega)
    | 2, hv', hc => cases hv'; cases hc; exact .bool _
    | k + 3, hv', _ => simp at hv'
  · exact ⟨rfl, rfl, rfl, Nat.le_refl _, fun _ _ _ => rfl, fun _ _ h => h⟩
theorem trimS_len (s cs : List UInt8) : (Lib.trimS s cs).length ≤ s.length := by
  unfold Lib.trimS Lib.trimLeftS Lib.trimRightS
  have h1 := (List.dropWhile_suffix (cs.contains ·) (l := (s.reverse.dropWhile (cs.contains ·)).reverse)).length_le
  have h2 := (List.dropWhile_suffix (cs.contains ·) (l := s.reverse)).length_le
  simp only [List.length_reverse] at h1 h2
  omega
/-- From behind, head by head. -/
def trR (p : UInt8 → Bool) : List UInt8 → List UInt8
  | [] => []
  | c :: l => if trR p l = [] ∧ p c = true then [] else c :: trR p l
theorem trR_eq (p : UInt8 → Bool) : ∀ l : List UInt8, (l.reverse.dropWhile p).reverse = trR p l
  | [] => rfl
  | c :: l => by
    have ih := trR_eq p l
    rw [List.reverse_cons, List.dropWhile_append, trR, ← ih]
    by_cases h : l.reverse.dropWhile p = []
    · rw [h]
      simp only [List.isEmpty_nil, if_true, List.reverse_nil, true_and]
      by_cases hc : p c = true
      · simp [List.dropWhile, hc]
      · simp [List.dropWhile, hc]
    · have h2 : (l.reverse.dropWhile p).isEmpty = false := by simpa [List.isEmpty_iff] using h
      rw [h2]
      simp [h]
theorem tr_swap (p : UInt8 → Bool) : ∀ l : List UInt8, (trR p l).dropWhile p = trR p (l.dropWhile p)
  | [] => rfl
  | c :: l => by
    have ih := tr_swap p l
    by_cases hc : p c = true
    · have e1 : (c :: l).dropWhile p = l.dropWhile p := by simp [List.dropWhile, hc]
      rw [e1, ← ih, trR]
      by_cases h : trR p l = []
      · rw [if_pos ⟨h, hc⟩, h]
      · rw [if_neg (fun e => h e.1)]
        simp [List.dropWhile, hc]
    · have e1 : (c :: l).dropWhile p = c :: l := by simp [List.dropWhile, hc]
      rw [e1, trR, if_neg (fun e => hc e.2)]
      simp [List.dropWhile, hc]
/-- What the document trims: first from the front. -/
theorem trim_front (s cs : List UInt8) : Lib.trimS s cs = trR (cs.contains ·) (s.dropWhile (cs.contains ·)) := by
  unfold Lib.trimS Lib.trimLeftS Lib.trimRightS
  rw [trR_eq, tr_swap]
theorem trim_walk (s : List UInt8) (hs : s.length ≤ 140737488355328) : Fn1 Tryd.prog 25 [.str s, .str [32, 9, 10, 12, 13]] (fun r => r = .str (Lib.trimS s [32, 9, 10, 12, 13])) := by
  intro w I vs hl hv hI
  obtain ⟨v0, v1, rfl⟩ : ∃ v0 v1, vs = [v0, v1] := by
    match vs, hl with
    | [a, b], _ => exact ⟨a, b, rfl⟩
  obtain ⟨rfl, hs1⟩ := pr_str_inv (hv 0 v0 _ rfl rfl)
  obtain ⟨rfl, _⟩ := pr_str_inv (hv 1 v1 _ rfl rfl)
  have ht := trimS_len s [32, 9, 10, 12, 13]
  refine fn1_str hI (by omega) ?_
  exact Any.strings_Trim_laid laysTrim (by kernel_rfl) ⟨s.toArray⟩ ⟨#[32, 9, 10, 12, 13]⟩ w (by simp only [ByteArray.size, List.size_toArray]; omega) (by decide) (ascii_of_all (by decide))
end Go.Proofs.YtaeeceabnkgnnaaDoor
