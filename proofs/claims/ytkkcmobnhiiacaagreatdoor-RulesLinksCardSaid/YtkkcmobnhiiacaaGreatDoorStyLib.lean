/- strings.Cut and strings.Trim by the kit's contracts. No conditions. -/
import Derived.Test.YtkkcmobnhiiacaaGreatDoorJoin
import Derived.Shelf.Strings.Cut
import Derived.Shelf.Strings.SlTrimAscii
import Derived.Shelf.Vars
set_option linter.unusedSimpArgs false
set_option linter.unusedVariables false
set_option maxRecDepth 100000
namespace Go.Proofs.YtkkcmobnhiiacaaGreatDoor
open Go.RowKit Go.Shelf

def renTrim : Ren := {
  f := fun x => match x with | 160 => 29 | 232 => 33 | 231 => 32 | 227 => 34 | 234 => 36 | 233 => 35 | 236 => 38 | 235 => 37 | 228 => 41 | 271 => 44 | 151 => 43 | 197 => 42 | 120 => 50 | 152 => 49 | 260 => 48 | 137 => 57 | 119 => 58 | 224 => 59 | 225 => 60 | 217 => 67 | 266 => 78 | n => n
  t := fun x => match x with | 9 => 9 | 4 => 4 | 3 => 3 | 5 => 5 | 117 => 59 | 116 => 58 | 0 => 0 | 124 => 62 | 21 => 21 | 105 => 80 | 46 => 102 | 119 => 95 | 139 => 105 | 138 => 104 | n => n
  g := fun x => match x with | 3 => 0 | 4 => 1 | n => n }
theorem laysTrim : Lays.n160 Tryz.prog renTrim := {
  mixed := by kernel_rfl
  f119 := Tryz.func58.trans (congrArg some (by kernel_rfl))
  f120 := Tryz.func50.trans (congrArg some (by kernel_rfl))
  f137 := Tryz.func57.trans (congrArg some (by kernel_rfl))
  f151 := Tryz.func43.trans (congrArg some (by kernel_rfl))
  f152 := Tryz.func49.trans (congrArg some (by kernel_rfl))
  f160 := Tryz.func29.trans (congrArg some (by kernel_rfl))
  f197 := Tryz.func42.trans (congrArg some (by kernel_rfl))
  f217 := Tryz.func67.trans (congrArg some (by kernel_rfl))
  f224 := Tryz.func59.trans (congrArg some (by kernel_rfl))
  f225 := Tryz.func60.trans (congrArg some (by kernel_rfl))
  f227 := Tryz.func34.trans (congrArg some (by kernel_rfl))
  f228 := Tryz.func41.trans (congrArg some (by kernel_rfl))
  f231 := Tryz.func32.trans (congrArg some (by kernel_rfl))
  f232 := Tryz.func33.trans (congrArg some (by kernel_rfl))
  f233 := Tryz.func35.trans (congrArg some (by kernel_rfl))
  f234 := Tryz.func36.trans (congrArg some (by kernel_rfl))
  f235 := Tryz.func37.trans (congrArg some (by kernel_rfl))
  f236 := Tryz.func38.trans (congrArg some (by kernel_rfl))
  f260 := Tryz.func48.trans (congrArg some (by kernel_rfl))
  f266 := Tryz.func78.trans (congrArg some (by kernel_rfl))
  f271 := Tryz.func44.trans (congrArg some (by kernel_rfl))
  t0 := Tryz.underlying0
  a0 := Tryz.isAgg0
  z0 := Tryz.sizeOf0
  v0 := Tryz.zeroValue0
  t3 := Tryz.underlying3
  a3 := Tryz.isAgg3
  z3 := Tryz.sizeOf3
  v3 := Tryz.zeroValue3
  t4 := Tryz.underlying4
  a4 := Tryz.isAgg4
  z4 := Tryz.sizeOf4
  v4 := Tryz.zeroValue4
  t5 := Tryz.underlying5
  a5 := Tryz.isAgg5
  z5 := Tryz.sizeOf5
  v5 := Tryz.zeroValue5
  t9 := Tryz.underlying9
  a9 := Tryz.isAgg9
  z9 := Tryz.sizeOf9
  v9 := Tryz.zeroValue9
  t21 := Tryz.underlying21
  a21 := Tryz.isAgg21
  z21 := Tryz.sizeOf21
  v21 := Tryz.zeroValue21
  t46 := Tryz.underlying102
  a46 := Tryz.isAgg102
  z46 := Tryz.sizeOf102
  v46 := Tryz.zeroValue102
  t105 := Tryz.underlying80
  a105 := Tryz.isAgg80
  z105 := Tryz.sizeOf80
  v105 := Tryz.zeroValue80
  t116 := Tryz.underlying58
  a116 := Tryz.isAgg58
  z116 := Tryz.sizeOf58
  t117 := Tryz.underlying59
  a117 := Tryz.isAgg59
  z117 := Tryz.sizeOf59
  v117 := Tryz.zeroValue59
  t119 := Tryz.underlying95
  a119 := Tryz.isAgg95
  z119 := Tryz.sizeOf95
  t124 := Tryz.underlying62
  a124 := Tryz.isAgg62
  z124 := Tryz.sizeOf62
  v124 := Tryz.zeroValue62
  t138 := Tryz.underlying104
  a138 := Tryz.isAgg104
  z138 := Tryz.sizeOf104
  v138 := Tryz.zeroValue104
  t139 := Tryz.underlying105
  a139 := Tryz.isAgg105
  z139 := Tryz.sizeOf105
  v139 := Tryz.zeroValue105
  g3 := by kernel_rfl
  g4 := by kernel_rfl }
theorem pr_str_mk {w : World} {I : Nat → Prop} {s : List UInt8} (h : s.length ≤ maxLen) : Pr w I (.string ⟨s.toArray⟩) (.str s) := by
  have := Pr.str (w := w) (I := I) (⟨s.toArray⟩ : ByteArray) (by simpa [ByteArray.size] using h)
  simpa using this
theorem cut_len (s sep : List UInt8) : (Lib.cut s sep).1.length ≤ s.length ∧ (Lib.cut s sep).2.1.length ≤ s.length := by
  unfold Lib.cut
  split
  · simp only [List.length_take, List.length_drop]; omega
  · simp
theorem trimS_len (s cs : List UInt8) : (Lib.trimS s cs).length ≤ s.length := by
  unfold Lib.trimS Lib.trimLeftS Lib.trimRightS
  have h1 := (List.dropWhile_suffix (cs.contains ·) (l := (s.reverse.dropWhile (cs.contains ·)).reverse)).length_le
  have h2 := (List.dropWhile_suffix (cs.contains ·) (l := s.reverse)).length_le
  simp only [List.length_reverse] at h1 h2
  omega
/-- From behind, head by head. -/
def trR (p : UInt8 → Bool) : List UInt8 → List UInt8
  | [] => []
  | c :: l => if trR p l = [] ∧ p c = true then [] else c :: trR p l
theorem trR_eq (p : UInt8 → Bool) : ∀ l : List UInt8, (l.reverse.dropWhile p).reverse = trR p l
  | [] => rfl
  | c :: l => by
    have ih := trR_eq p l
    rw [List.reverse_cons, List.dropWhile_append, trR, ← ih]
    by_cases h : l.reverse.dropWhile p = []
    · rw [h]
      simp only [List.isEmpty_nil, if_true, List.reverse_nil, true_and]
      by_cases hc : p c = true
      · simp [List.dropWhile, hc]
      · simp [List.dropWhile, hc]
    · have h2 : (l.reverse.dropWhile p).isEmpty = false := by simpa [List.isEmpty_iff] using h
      rw [h2]
      simp [h]
theorem tr_swap (p : UInt8 → Bool) : ∀ l : List UInt8, (trR p l).dropWhile p = trR p (l.dropWhile p)
  | [] => rfl
  | c :: l => by
    have ih := tr_swap p l
    by_cases hc : p c = true
    · have e1 : (c :: l).dropWhile p = l.dropWhile p := by simp [List.dropWhile, hc]
      rw [e1, ← ih, trR]
      by_cases h : trR p l = []
      · rw [if_pos ⟨h, hc⟩, h]
      · rw [if_neg (fun e => h e.1)]
        simp [List.dropWhile, hc]
    · have e1 : (c :: l).dropWhile p = c :: l := by simp [List.dropWhile, hc]
      rw [e1, trR, if_neg (fun e => hc e.2)]
      simp [List.dropWhile, hc]
/-- What the document trims: first from the front. -/
theorem trim_front (s cs : List UInt8) : Lib.trimS s cs = trR (cs.contains ·) (s.dropWhile (cs.contains ·)) := by
  unfold Lib.trimS Lib.trimLeftS Lib.trimRightS
  rw [trR_eq, tr_swap]
theorem trim_walk (s : List UInt8) (hs : s.length ≤ 140737488355328) : Fn1 Tryz.prog 29 [.str s, .str [32, 9, 10, 12, 13]] (fun r => r = .str (Lib.trimS s [32, 9, 10, 12, 13])) := by
  intro w I vs hl hv hI
  obtain ⟨v0, v1, rfl⟩ : ∃ v0 v1, vs = [v0, v1] := by
    match vs, hl with
    | [a, b], _ => exact ⟨a, b, rfl⟩
  obtain ⟨rfl, hs1⟩ := pr_str_inv (hv 0 v0 _ rfl rfl)
  obtain ⟨rfl, _⟩ := pr_str_inv (hv 1 v1 _ rfl rfl)
  have ht := trimS_len s [32, 9, 10, 12, 13]
  refine fn1_str hI (by omega) ?_
  exact Any.strings_Trim_laid laysTrim (by kernel_rfl) ⟨s.toArray⟩ ⟨#[32, 9, 10, 12, 13]⟩ w (by simp only [ByteArray.size, List.size_toArray]; omega) (by decide) (ascii_of_all (by decide))
end Go.Proofs.YtkkcmobnhiiacaaGreatDoor
