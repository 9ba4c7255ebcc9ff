/- strings.Cut and strings.Trim by the kit's contracts. No conditions. -/
import Derived.Test.YtjlkahkehnakfaaDoorJoin
import Derived.Shelf.Strings.Cut
import Derived.Shelf.Strings.SlTrimAscii
import Derived.Shelf.Vars
set_option linter.unusedSimpArgs false
set_option linter.unusedVariables false
set_option maxRecDepth 100000
namespace Go.Proofs.YtjlkahkehnakfaaDoor
open Go.RowKit Go.Shelf

def renTrim : Ren := {
  f := fun x => match x with | 160 => 9 | 232 => 18 | 231 => 17 | 227 => 19 | 234 => 21 | 233 => 20 | 236 => 23 | 235 => 22 | 228 => 26 | 271 => 29 | 151 => 28 | 197 => 27 | 120 => 35 | 152 => 34 | 260 => 33 | 137 => 42 | 119 => 43 | 224 => 44 | 225 => 45 | 217 => 52 | 266 => 63 | n => n
  t := fun x => match x with | 9 => 9 | 4 => 4 | 3 => 3 | 5 => 5 | 117 => 34 | 116 => 33 | 0 => 0 | 124 => 37 | 21 => 21 | 105 => 57 | 46 => 79 | 119 => 72 | 139 => 82 | 138 => 81 | n => n
  g := fun x => match x with | 3 => 0 | 4 => 1 | n => n }
theorem laysTrim : Lays.n160 Tryd.prog renTrim := {
  mixed := by kernel_rfl
  f119 := Tryd.func43.trans (congrArg some (by kernel_rfl))
  f120 := Tryd.func35.trans (congrArg some (by kernel_rfl))
  f137 := Tryd.func42.trans (congrArg some (by kernel_rfl))
  f151 := Tryd.func28.trans (congrArg some (by kernel_rfl))
  f152 := Tryd.func34.trans (congrArg some (by kernel_rfl))
  f160 := Tryd.func9.trans (congrArg some (by kernel_rfl))
  f197 := Tryd.func27.trans (congrArg some (by kernel_rfl))
  f217 := Tryd.func52.trans (congrArg some (by kernel_rfl))
  f224 := Tryd.func44.trans (congrArg some (by kernel_rfl))
  f225 := Tryd.func45.trans (congrArg some (by kernel_rfl))
  f227 := Tryd.func19.trans (congrArg some (by kernel_rfl))
  f228 := Tryd.func26.trans (congrArg some (by kernel_rfl))
  f231 := Tryd.func17.trans (congrArg some (by kernel_rfl))
  f232 := Tryd.func18.trans (congrArg some (by kernel_rfl))
  f233 := Tryd.func20.trans (congrArg some (by kernel_rfl))
  f234 := Tryd.func21.trans (congrArg some (by kernel_rfl))
  f235 := Tryd.func22.trans (congrArg some (by kernel_rfl))
  f236 := Tryd.func23.trans (congrArg some (by kernel_rfl))
  f260 := Tryd.func33.trans (congrArg some (by kernel_rfl))
  f266 := Tryd.func63.trans (congrArg some (by kernel_rfl))
  f271 := Tryd.func29.trans (congrArg some (by kernel_rfl))
  t0 := Tryd.underlying0
  a0 := Tryd.isAgg0
  z0 := Tryd.sizeOf0
  v0 := Tryd.zeroValue0
  t3 := Tryd.underlying3
  a3 := Tryd.isAgg3
  z3 := Tryd.sizeOf3
  v3 := Tryd.zeroValue3
  t4 := Tryd.underlying4
  a4 := Tryd.isAgg4
  z4 := Tryd.sizeOf4
  v4 := Tryd.zeroValue4
  t5 := Tryd.underlying5
  a5 := Tryd.isAgg5
  z5 := Tryd.sizeOf5
  v5 := Tryd.zeroValue5
  t9 := Tryd.underlying9
  a9 := Tryd.isAgg9
  z9 := Tryd.sizeOf9
  v9 := Tryd.zeroValue9
  t21 := Tryd.underlying21
  a21 := Tryd.isAgg21
  z21 := Tryd.sizeOf21
  v21 := Tryd.zeroValue21
  t46 := Tryd.underlying79
  a46 := Tryd.isAgg79
  z46 := Tryd.sizeOf79
  v46 := Tryd.zeroValue79
  t105 := Tryd.underlying57
  a105 := Tryd.isAgg57
  z105 := Tryd.sizeOf57
  v105 := Tryd.zeroValue57
  t116 := Tryd.underlying33
  a116 := Tryd.isAgg33
  z116 := Tryd.sizeOf33
  t117 := Tryd.underlying34
  a117 := Tryd.isAgg34
  z117 := Tryd.sizeOf34
  v117 := Tryd.zeroValue34
  t119 := Tryd.underlying72
  a119 := Tryd.isAgg72
  z119 := Tryd.sizeOf72
  t124 := Tryd.underlying37
  a124 := Tryd.isAgg37
  z124 := Tryd.sizeOf37
  v124 := Tryd.zeroValue37
  t138 := Tryd.underlying81
  a138 := Tryd.isAgg81
  z138 := Tryd.sizeOf81
  v138 := Tryd.zeroValue81
  t139 := Tryd.underlying82
  a139 := Tryd.isAgg82
  z139 := Tryd.sizeOf82
  v139 := Tryd.zeroValue82
  g3 := by kernel_rfl
  g4 := by kernel_rfl }
theorem pr_str_mk {w : World} {I : Nat → Prop} {s : List UInt8} (h : s.length ≤ maxLen) : Pr w I (.string ⟨s.toArray⟩) (.str s) := by
  have := Pr.str (w := w) (I := I) (⟨s.toArray⟩ : ByteArray) (by simpa [ByteArray.size] using h)
  simpa using this
theorem cut_len (s sep : List UInt8) : (Lib.cut s sep).1.length ≤ s.length ∧ (Lib.cut s sep).2.1.length ≤ s.length := by
  unfold Lib.cut
  split
  · simp only [List.length_take, List.length_drop]; omega
  · simp
theorem trimS_len (s cs : List UInt8) : (Lib.trimS s cs).length ≤ s.length := by
  unfold Lib.trimS Lib.trimLeftS Lib.trimRightS
  have h1 := (List.dropWhile_suffix (cs.contains ·) (l := (s.reverse.dropWhile (cs.contains ·)).reverse)).length_le
  have h2 := (List.dropWhile_suffix (cs.contains ·) (l := s.reverse)).length_le
  simp only [List.length_reverse] at h1 h2
  omega
/-- From behind, head by head. -/
def trR (p : UInt8 → Bool) : List UInt8 → List UInt8
  | [] => []
  | c :: l => if trR p l = [] ∧ p c = true then [] else c :: trR p l
theorem trR_eq (p : UInt8 → Bool) : ∀ l : List UInt8, (l.reverse.dropWhile p).reverse = trR p l
  | [] => rfl
  | c :: l => by
    have ih := trR_eq p l
    rw [List.reverse_cons, List.dropWhile_append, trR, ← ih]
    by_cases h : l.reverse.dropWhile p = []
    · rw [h]
      simp only [List.isEmpty_nil, if_true, List.reverse_nil, true_and]
      by_cases hc : p c = true
      · simp [List.dropWhile, hc]
      · simp [List.dropWhile, hc]
    · have h2 : (l.reverse.dropWhile p).isEmpty = false := by simpa [List.isEmpty_iff] using h
      rw [h2]
      simp [h]
theorem tr_swap (p : UInt8 → Bool) : ∀ l : List UInt8, (trR p l).dropWhile p = trR p (l.dropWhile p)
  | [] => rfl
  | c :: l => by
    have ih := tr_swap p l
    by_cases hc : p c = true
    · have e1 : (c :: l).dropWhile p = l.dropWhile p := by simp [List.dropWhile, hc]
      rw [e1, ← ih, trR]
      by_cases h : trR p l = []
      · rw [if_pos ⟨h, hc⟩, h]
      · rw [if_neg (fun e => h e.1)]
        simp [List.dropWhile, hc]
    · have e1 : (c :: l).dropWhile p = c :: l := by simp [List.dropWhile, hc]
      rw [e1, trR, if_neg (fun e => hc e.2)]
      simp [List.dropWhile, hc]
/-- What the document trims: first from the front. -/
theorem trim_front (s cs : List UInt8) : Lib.trimS s cs = trR (cs.contains ·) (s.dropWhile (cs.contains ·)) := by
  unfold Lib.trimS Lib.trimLeftS Lib.trimRightS
  rw [trR_eq, tr_swap]
theorem trim_walk (s : List UInt8) (hs : s.length ≤ 140737488355328) : Fn1 Tryd.prog 9 [.str s, .str [32, 9, 10, 12, 13]] (fun r => r = .str (Lib.trimS s [32, 9, 10, 12, 13])) := by
  intro w I vs hl hv hI
  obtain ⟨v0, v1, rfl⟩ : ∃ v0 v1, vs = [v0, v1] := by
    match vs, hl with
    | [a, b], _ => exact ⟨a, b, rfl⟩
  obtain ⟨rfl, hs1⟩ := pr_str_inv (hv 0 v0 _ rfl rfl)
  obtain ⟨rfl, _⟩ := pr_str_inv (hv 1 v1 _ rfl rfl)
  have ht := trimS_len s [32, 9, 10, 12, 13]
  refine fn1_str hI (by omega) ?_
  exact Any.strings_Trim_laid laysTrim (by kernel_rfl) ⟨s.toArray⟩ ⟨#[32, 9, 10, 12, 13]⟩ w (by simp only [ByteArray.size, List.size_toArray]; omega) (by decide) (ascii_of_all (by decide))
end Go.Proofs.YtjlkahkehnakfaaDoor
