/- strings.Replacer: a text without the three signs, walked. No conditions. -/
import Derived.Test.YtjlkahkehnakfaaDoorRepc
import Derived.Lib.Bytealg
import Derived.Deep.LoopGhost
import Derived.Laws.CopyOwn
import Derived.Laws.Cover3
set_option linter.unusedSimpArgs false
set_option linter.unusedVariables false
set_option maxRecDepth 100000
namespace Go.Proofs.YtjlkahkehnakfaaDoor
open Go.RowKit

def nd (l : List UInt8) : Nat := (l.filter fun c => !dropC c).length
theorem nd_le (l : List UInt8) : nd l ≤ l.length := List.length_filter_le _ _
theorem nd_kept : ∀ l : List UInt8, nd l + (l.filter dropC).length = l.length
  | [] => rfl
  | c :: l => by
    have ih := nd_kept l
    unfold nd at *
    cases h : dropC c <;> simp [h] <;> omega
theorem nd_snoc (l : List UInt8) (c : UInt8) : nd (l ++ [c]) = nd l + if dropC c = true then 0 else 1 := by
  unfold nd
  rw [List.filter_append, List.length_append]
  cases h : dropC c <;> simp [h]
theorem take_snoc' {l : List UInt8} {i : Nat} {c : UInt8} (h : l[i]? = some c) : l.take (i + 1) = l.take i ++ [c] := by
  rw [List.take_add_one, h]; rfl
/-- How often the first k signs stand there. -/
def ndk (l : List UInt8) : Nat → Nat
  | 0 => 0
  | k + 1 => ndk l k + l.count (sgnR k)
theorem ndk_3 (l : List UInt8) : ndk l 3 = nd l := by
  unfold nd
  simp only [ndk, Nat.zero_add]
  induction l with
  | nil => rfl
  | cons c l ih =>
    simp only [List.count_cons, List.filter_cons]
    by_cases h0 : c = sgnR 0
    · subst h0; rw [if_pos (by decide : (!dropC (sgnR 0)) = true)]; simp [show (sgnR 0 == sgnR 1) = false from rfl, show (sgnR 0 == sgnR 2) = false from rfl]; omega
    · by_cases h1 : c = sgnR 1
      · subst h1; rw [if_pos (by decide : (!dropC (sgnR 1)) = true)]; simp [show (sgnR 1 == sgnR 0) = false from rfl, show (sgnR 1 == sgnR 2) = false from rfl]; omega
      · by_cases h2 : c = sgnR 2
        · subst h2; rw [if_pos (by decide : (!dropC (sgnR 2)) = true)]; simp [show (sgnR 2 == sgnR 0) = false from rfl, show (sgnR 2 == sgnR 1) = false from rfl]; omega
        · have hd : (!dropC c) = false := by
            simp only [dropC, Bool.not_not, Bool.or_eq_false_iff, decide_eq_false_iff_not]
            exact ⟨⟨fun e => h2 e, fun e => h1 e⟩, fun e => h0 e⟩
          rw [hd]
          have e0 : (c == sgnR 0) = false := by simpa using h0
          have e1 : (c == sgnR 1) = false := by simpa using h1
          have e2 : (c == sgnR 2) = false := by simpa using h2
          simp only [e0, e1, e2, Bool.false_eq_true, if_false]
          omega
theorem ndk_le (l : List UInt8) : ∀ k, k ≤ 3 → ndk l k ≤ nd l := by
  intro k hk
  rw [← ndk_3]
  have : k = 0 ∨ k = 1 ∨ k = 2 ∨ k = 3 := by omega
  rcases this with rfl | rfl | rfl | rfl <;> simp only [ndk] <;> omega
set_option maxHeartbeats 1000000 in
set_option maxRecDepth 100000 in
/-- strings.Count at one byte. -/
theorem count_one (s : ByteArray) (c : UInt8) (w : World) :
    Calls Tryd.prog 105 #[.string s, .string ⟨#[c]⟩] w fun e w' => e = .returned (.int .i64 (s.data.toList.count c)) ∧ w' = w := by
  have e0 : ∀ h, ((⟨#[c]⟩ : ByteArray)[0]'h) = c := fun _ => rfl
  go_enter Tryd.func105, Tryd.ntmps105
  go_wp2
  rw [run_callFunc_extern Tryd.func107 (by kernel_rfl) (by kernel_rfl) (by kernel_rfl) (e := Extern.BytealgCount.count) (by kernel_rfl), Lib.run_countString]
  simp only [Result.andThen]
  rw [Oper.upon_value]
  go_wp2
  go_ret
  refine ⟨?_, rfl⟩
  simp [Lib.countByte]
theorem dropC_sgn : ∀ k, k < 3 → dropC (sgnR k) = false := by decide
theorem dropC_false {c : UInt8} (h : dropC c = false) : ∃ k, k < 3 ∧ c = sgnR k := by
  have : c = 9 ∨ c = 10 ∨ c = 13 := by
    simp only [dropC, Bool.not_eq_false', Bool.or_eq_true, decide_eq_true_eq] at h
    rcases h with (h | h) | h
    · exact .inl h
    · exact .inr (.inl h)
    · exact .inr (.inr h)
  rcases this with h | h | h
  · exact ⟨2, by decide, h⟩
  · exact ⟨1, by decide, h⟩
  · exact ⟨0, by decide, h⟩
theorem tab_cell {w : World} {B Gr : Nat} (hT : TabK 3 w B Gr) : (∀ c : UInt8, dropC c = true → w.cell? ⟨B, c.toNat, none⟩ = some (.slice none 0 0)) ∧
    (∀ c : UInt8, dropC c = false → ∃ a n, w.cell? ⟨B, c.toNat, none⟩ = some (.slice (some a) 0 n)) ∧ w.cell? ⟨B, 256, none⟩ = some (.slice (some ⟨Gr, 0, none⟩) 3 3) ∧ ∀ j, j < 3 → w.cell? ⟨Gr, j, none⟩ = some (vstr [sgnR j]) := by
  obtain ⟨T, hTl, hTB, hT1, hT2, cur, hcs, hcb, hcv⟩ := hT
  have bT : ∀ b, b < 256 → w.cell? ⟨B, b, none⟩ = T[b]? := by
    intro b hb
    rw [Lib.cell_of_heap hTB]
    simp [tabC, List.getElem?_append_left, hTl, hb]
  refine ⟨fun c hc => (bT _ c.toNat_lt).trans (hT1 _ c.toNat_lt fun j hj e => ?_), fun c hc => ?_, ?_, fun j hj => ?_⟩
  · rw [UInt8.toNat_inj.1 e, dropC_sgn j hj] at hc
    cases hc
  · obtain ⟨k, hk, rfl⟩ := dropC_false hc
    obtain ⟨a, n, h⟩ := hT2 k hk
    exact ⟨a, n, (bT _ (sgnR k).toNat_lt).trans h⟩
  · rw [Lib.cell_of_heap hTB]
    simp [tabC, List.getElem?_append_right, hTl]
  · rw [Lib.cell_of_heap hcb]
    exact hcv j hj
theorem filter_all {l : List UInt8} (h : nd l = 0) : l.filter dropC = l := by
  have := nd_kept l
  exact (List.filter_sublist (p := dropC) (l := l)).eq_of_length (by omega)
theorem make56 (w : World) (m : Nat) (hm : m ≤ 140737488355328) : ∃ Z : Array Value, Z.size = m ∧ (Instr.makeSlice 56 (.int .i64 m) (.int .i64 m)).run Tryd.prog w = .ok (.slice (some ⟨w.heap.size, 0, none⟩) m m) (w.alloc (.cells Z 5)) := by
  have h : (Tryd.prog.info? 5).map (fun i => (i.zero, i.size, i.bytes)) = some (some (.int .u8 0), 1, 1) := by kernel_rfl
  obtain ⟨i, hi, e⟩ := Option.map_eq_some_iff.1 h
  simp only [Prod.mk.injEq] at e
  have := run_make (P := Tryd.prog) w 56 5 i (.int .u8 0) Tryd.underlying56 hi e.1 .i64 .i64 m m (by omega) (by omega) (by rw [e.2.2]; omega) (by omega)
  rw [e.2.1] at this
  exact ⟨madeCells (Value.int .u8 0).cells (Int.toNat (m : Int) * 1), by rw [size_madeCells]; omega, by simpa using this⟩
/-- The new row: m cells, the first of them the bytes l. -/
def Since3 (D m : Nat) (l : List UInt8) (w : World) : Prop := ∃ cur : Array Value, cur.size = m ∧ w.heap[D]? = some (.cells cur 5 (0, 0)) ∧ ∀ (t : Nat) (x : UInt8), l[t]? = some x → cur[t]? = some (.int .u8 x.toNat)
theorem conv_row (w : World) (D m : Nat) (cur : Array Value) (hcb : w.heap[D]? = some (.cells cur 5 (0, 0))) (l : List UInt8) (hl : l.length = m) (h : ∀ (t : Nat) (x : UInt8), l[t]? = some x → cur[t]? = some (.int .u8 x.toNat)) :
    (convert 56 9 (.slice (some ⟨D, 0, none⟩) m m)).run Tryd.prog w = .ok (.string ⟨l.toArray⟩) w := by
  have h1 := run_convert_bytes_arg (P := Tryd.prog) w 56 5 Tryd.underlying56 Tryd.underlying5 D 0 m m (l.map fun x => (x.toNat : Int)) (by simpa using hl) (fun i hi => by
    rw [Nat.zero_add, Lib.cell_of_heap hcb]
    have hx : l[i]? = some (l[i]'(by omega)) := List.getElem?_eq_getElem _
    rw [h i _ hx]
    simp [List.getD, hx]) 9 Tryd.underlying9
  rw [h1]
  simp [strOfNums, Function.comp_def]
set_option maxHeartbeats 8000000 in
set_option maxRecDepth 100000 in
theorem bsr_run (B Gr : Nat) (s : ByteArray) (w : World) (hT : TabK 3 w B Gr) (hs : s.size ≤ 140737488355328) :
    Calls Tryd.prog 103 #[.pointer (some ⟨B, 0, none⟩), .string s] w fun e w' => e = .returned (.string ⟨(s.data.toList.filter dropC).toArray⟩) ∧ Below w.heap.size w w' := by
  obtain ⟨hk, hd, h256, hg⟩ := tab_cell hT
  have HK : Aside (∀ c : UInt8, dropC c = true → w.cell? ⟨B, c.toNat, none⟩ = some (.slice none 0 0)) := hk
  have HD : Aside (∀ c : UInt8, dropC c = false → ∃ a n, w.cell? ⟨B, c.toNat, none⟩ = some (.slice (some a) 0 n)) := hd
  have HG : Aside (∀ j, j < 3 → w.cell? ⟨Gr, j, none⟩ = some (vstr [sgnR j])) := hg
  clear hk hd hg
  have q1 : ∀ (a : Option Addr) (l c : Nat) (w : World), (binOp .neq 56 (.slice a l c) (.slice none 0 0)).run Tryd.prog w = .ok (.bool (!a.isNone)) w := fun a l c w => Go.run_neq_slice_nil (P := Tryd.prog) (w := w) 56 5 a l c Tryd.underlying56
  go_enter Tryd.func103, Tryd.ntmps103
  have hBlt := (tab_lt hT).1
  have hGlt := (tab_lt hT).2
  have hL : s.data.toList.length = s.size := by rw [Array.length_toList]; rfl
  by_cases h24 : (24 : Int) ≤ (s.size : Int)
  · go_wp2
    go_loopg [5, 6, 32] 3 (fun g v5 v6 v32 wx => ∃ k m : Nat, k + g = 3 ∧ m + ndk s.data.toList k = s.size ∧ v5 = .int .i64 m ∧ v6 = .bool (decide (m < s.size)) ∧ v32 = .int .i64 k ∧ Below w.heap.size w wx)
    case atStart => exact ⟨0, s.size, by omega, by simp [ndk], rfl, by simp, rfl, Below.refl _ _⟩
    case round =>
      obtain ⟨k, m, hkg, hm, rfl, rfl, rfl, hB⟩ := hrel
      cases gk with
      | zero =>
        obtain rfl : k = 3 := by omega
        rw [ndk_3] at hm
        have hkl := nd_kept s.data.toList
        rw [hL] at hkl
        have hiz : ¬ ((s.size : Int) < (s.size : Int)) := by omega
        by_cases hz : m < s.size
        · have hdz : decide (m < s.size) = true := decide_eq_true hz
          rw [hdz]
          obtain ⟨Z, hZs, hmk⟩ := make56 wr m (by omega)
          have hzl := heap_alloc_last wr (.cells Z 5)
          have hBa := hB.alloc hB.size (.cells Z 5)
          have hDB := hB.size
          clear hB
          obtain ⟨D, hD⟩ : ∃ D, D = wr.heap.size := ⟨_, rfl⟩
          rw [← hD] at hmk hzl hDB
          clear hD
          go_wp2
          go_loopg [13, 14] s.size (fun g v13 v14 wy => ∃ i : Nat, i + g = s.size ∧ v14 = .int .i64 i ∧ v13 = .int .i64 ((s.data.toList.take i).filter dropC).length ∧ Below w.heap.size w wy ∧ Since3 D m ((s.data.toList.take i).filter dropC) wy)
          case atStart => exact ⟨0, by omega, rfl, rfl, hBa, Z, hZs, hzl, fun t x h => by simp at h⟩
          case round =>
            obtain ⟨k, hkg, rfl, rfl, hB3, cur, hcs, hcb, hcv⟩ := hrel
            obtain ⟨j, hj⟩ : ∃ j, j = ((s.data.toList.take k).filter dropC).length := ⟨_, rfl⟩
            have hjm : ∀ n, ((s.data.toList.take n).filter dropC).length ≤ m := by
              intro n
              have := (List.Sublist.filter dropC (List.take_sublist n s.data.toList)).length_le
              omega
            rw [← hj]
            cases gk with
            | zero =>
              obtain rfl : k = s.size := by omega
              rw [List.take_of_length_le (by rw [hL]; exact Nat.le_refl _)] at hcv hj
              have hcv2 := conv_row wr D m cur hcb (s.data.toList.filter dropC) (by omega) hcv
              go_wp2
              go_ret
              exact ⟨rfl, hB3⟩
            | succ g =>
              have hk : k < s.size := by omega
              have hkz : (k : Int) < (s.size : Int) := by omega
              obtain ⟨x, hx⟩ : ∃ x : UInt8, s[k]'hk = x := ⟨_, rfl⟩
              have hxl : s.data.toList[k]? = some x := by rw [← hx]; exact Lib.data_getElem? s k hk
              have hx256 : (x.toNat : Int) < 256 := by have := x.toNat_lt; omega
              have hfs : (s.data.toList.take (k + 1)).filter dropC = (s.data.toList.take k).filter dropC ++ [x].filter dropC := by
                rw [take_snoc' hxl, List.filter_append]
              have hjn := hjm (k + 1)
              have hjo := hjm k
              have HF : Aside ((s.data.toList.take (k + 1)).filter dropC = (s.data.toList.take k).filter dropC ++ [x].filter dropC) := hfs
              have HV : Aside (∀ (t : Nat) (y : UInt8), ((s.data.toList.take k).filter dropC)[t]? = some y → cur[t]? = some (.int .u8 y.toNat)) := hcv
              have HJ : Aside (j = ((s.data.toList.take k).filter dropC).length) := hj
              clear hxl hjm
              cases hc : dropC x
              · rw [hfs] at hjn
                clear hfs hcv
                obtain ⟨a, n, hcell⟩ := HD.out x hc
                have hcell := (hB3.cell (p := ⟨B, x.toNat, none⟩) hBlt).trans hcell
                have hcp : ∀ (W : World) (d : Option Addr) (dLen dCap : Nat), (Builtin.copy_ #[56, 56] 3 #[.slice d dLen dCap, .slice (some a) 0 n]).run Tryd.prog W = .ok (goInt 0) W := fun W d dLen dCap => run_copy_none W _ _ _ 5 d (some a) dLen dCap 0 n Tryd.underlying56 (by kernel_rfl) (by simp)
                rw [← hj] at hjo
                clear hj
                have e : (s.data.toList.take (k + 1)).filter dropC = (s.data.toList.take k).filter dropC := by
                  rw [HF.out, List.filter_cons_of_neg (by rw [hc]; decide), List.filter_nil, List.append_nil]
                have HE : Aside ((s.data.toList.take (k + 1)).filter dropC = (s.data.toList.take k).filter dropC) := e
                clear e hjn
                rcases Nat.lt_or_eq_of_le hjo with hjlt | hjeq
                · have hne : ¬ (j = m) := by omega
                  have hne' : ¬ (m = j) := by omega
                  go_wp2
                  go_region
                  all_goals
                    go_wp2
                    go_roundg g
                    case measure => omega
                    case rel =>
                      refine ⟨k + 1, by omega, by go_num, ?_, hB3.drew, cur, hcs, hcb, ?_⟩
                      · rw [HE.out, ← HJ.out]
                      · rw [HE.out]
                        exact HV.out
                · obtain rfl : m = j := hjeq.symm
                  go_wp2
                  go_region
                  all_goals
                    go_wp2
                    go_roundg g
                    case measure => omega
                    case rel =>
                      refine ⟨k + 1, by omega, by go_num, ?_, hB3.drew, cur, hcs, hcb, ?_⟩
                      · rw [HE.out, ← HJ.out]
                      · rw [HE.out]
                        exact HV.out
              · rw [hfs, List.length_append, List.filter_cons_of_pos hc, List.filter_nil, List.length_singleton, ← hj] at hjn
                clear hfs hcv
                have hcell := (hB3.cell (p := ⟨B, x.toNat, none⟩) hBlt).trans (HK.out x hc)
                have hjlt : j < m := by omega
                obtain ⟨v, hcj⟩ : ∃ v, wr.cell? ⟨D, j, none⟩ = some v := ⟨cur[j]'(by omega), by
                  rw [Lib.cell_of_heap hcb]
                  exact Array.getElem?_eq_getElem (by omega)⟩
                have hfj : wr.frozen? ⟨D, j, none⟩ = false := Lib.frozen_of_heap hcb j
                clear hj hjo
                go_wp2
                go_roundg g
                case measure => omega
                case rel =>
                  refine ⟨k + 1, by omega, by go_num, ?_, hB3.setCell (p := ⟨D, j, none⟩) hDB _, cur.setIfInBounds j (.int .u8 x.toNat), by simpa using hcs, setCell_at hcb j _, fun t y hy => ?_⟩
                  · rw [HF.out, List.length_append, List.filter_cons_of_pos hc, ← HJ.out]
                    go_num
                  · rw [HF.out, List.filter_cons_of_pos hc] at hy
                    by_cases e : t = j
                    · subst e
                      rw [List.getElem?_append_right (by rw [← HJ.out]; exact Nat.le_refl _), ← HJ.out, Nat.sub_self] at hy
                      simp at hy
                      subst hy
                      rw [Array.getElem?_setIfInBounds_self_of_lt (by omega)]
                    · rw [Array.getElem?_setIfInBounds_ne (fun h => e h.symm)]
                      refine HV.out t y ?_
                      rcases Nat.lt_or_ge t ((s.data.toList.take k).filter dropC).length with h | h
                      · rwa [List.getElem?_append_left h] at hy
                      · rw [List.getElem?_append_right h] at hy
                        have : t - ((s.data.toList.take k).filter dropC).length ≠ 0 := by rw [← HJ.out] at h ⊢; omega
                        rw [List.getElem?_eq_none (by simp; omega)] at hy
                        cases hy
        · have hdz : decide (m < s.size) = false := decide_eq_false hz
          rw [hdz]
          go_wp2
          go_ret
          refine ⟨?_, hB⟩
          rw [filter_all (by omega)]
          rfl
      | succ g =>
        have hk3 : k < 3 := by omega
        have hkz : (k : Int) < 3 := by omega
        have hks : ndk s.data.toList (k + 1) = ndk s.data.toList k + s.data.toList.count (sgnR k) := rfl
        have hkn := ndk_le s.data.toList (k + 1) (by omega)
        have hnl := nd_le s.data.toList
        obtain ⟨C, hC⟩ : ∃ C, C = s.data.toList.count (sgnR k) := ⟨_, rfl⟩
        have hcn := count_one s (sgnR k) wr
        rw [← hC] at hks hcn
        have hrow := (hB.cell (p := ⟨Gr, k, none⟩) hGlt).trans (HG.out k hk3)
        obtain ⟨a, n, hcell⟩ := HD.out _ (dropC_sgn k hk3)
        have hcell := (hB.cell (p := ⟨B, (sgnR k).toNat, none⟩) hBlt).trans hcell
        have hx256 : ((sgnR k).toNat : Int) < 256 := by have := (sgnR k).toNat_lt; omega
        have xk : ∀ h, ((⟨#[sgnR k]⟩ : ByteArray)[0]'h) = sgnR k := fun _ => rfl
        have hrow2 : wr.cell? ⟨Gr, k, none⟩ = some (.string ⟨#[sgnR k]⟩) := hrow
        clear hrow
        by_cases h0 : C = 0
        · subst h0
          have HM0 : m + ndk s.data.toList (k + 1) = s.size := by omega
          have HM : Aside (m + ndk s.data.toList (k + 1) = s.size) := HM0
          generalize sgnR k = c at *
          clear HM0 hks hkn hnl hm hC
          go_wp2_with (go_at_call 105; refine hcn.mono ?_; rintro e w' ⟨rfl, rfl⟩)
          go_roundg g
          case measure => omega
          case rel => exact ⟨k + 1, m, by omega, HM.out, by go_num, rfl, by go_num, hB⟩
        · obtain ⟨m', rfl⟩ : ∃ m', m = m' + C := ⟨m - C, by omega⟩
          have HM0 : m' + ndk s.data.toList (k + 1) = s.size := by omega
          have HM : Aside (m' + ndk s.data.toList (k + 1) = s.size) := HM0
          have hlt : m' < s.size := by omega
          have hms : m' + C ≤ s.size := by omega
          generalize sgnR k = c at *
          clear HM0 hks hkn hnl hm hC
          go_wp2_with (go_at_call 105; refine hcn.mono ?_; rintro e w' ⟨rfl, rfl⟩)
          go_region
          all_goals
            go_wp2
            go_roundg g
            case measure => omega
            case rel => exact ⟨k + 1, m', by omega, HM.out, by go_num, by rw [decide_eq_true hlt], by go_num, hB.drew⟩
  · go_wp2
    go_loopg [5, 6, 10] s.size (fun g v5 v6 v10 wx => ∃ i m : Nat, i + g = s.size ∧ m + nd (s.data.toList.take i) = s.size ∧ v5 = .int .i64 m ∧ v6 = .bool (decide (m < s.size)) ∧ v10 = .int .i64 i ∧ Below w.heap.size w wx)
    case atStart => exact ⟨0, s.size, by omega, by simp [nd], rfl, by simp, rfl, Below.refl _ _⟩
    case round =>
      obtain ⟨i, m, hig, hm, rfl, rfl, rfl, hB⟩ := hrel
      cases gk with
      | zero =>
        obtain rfl : i = s.size := by omega
        rw [List.take_of_length_le (by rw [hL]; exact Nat.le_refl _)] at hm
        have hkl := nd_kept s.data.toList
        rw [hL] at hkl
        have hiz : ¬ ((s.size : Int) < (s.size : Int)) := by omega
        by_cases hz : m < s.size
        · have hdz : decide (m < s.size) = true := decide_eq_true hz
          rw [hdz]
          obtain ⟨Z, hZs, hmk⟩ := make56 wr m (by omega)
          have hzl := heap_alloc_last wr (.cells Z 5)
          have hBa := hB.alloc hB.size (.cells Z 5)
          have hDB := hB.size
          clear hB
          obtain ⟨D, hD⟩ : ∃ D, D = wr.heap.size := ⟨_, rfl⟩
          rw [← hD] at hmk hzl hDB
          clear hD
          go_wp2
          go_loopg [13, 14] s.size (fun g v13 v14 wy => ∃ i : Nat, i + g = s.size ∧ v14 = .int .i64 i ∧ v13 = .int .i64 ((s.data.toList.take i).filter dropC).length ∧ Below w.heap.size w wy ∧ Since3 D m ((s.data.toList.take i).filter dropC) wy)
          case atStart => exact ⟨0, by omega, rfl, rfl, hBa, Z, hZs, hzl, fun t x h => by simp at h⟩
          case round =>
            obtain ⟨k, hkg, rfl, rfl, hB3, cur, hcs, hcb, hcv⟩ := hrel
            obtain ⟨j, hj⟩ : ∃ j, j = ((s.data.toList.take k).filter dropC).length := ⟨_, rfl⟩
            have hjm : ∀ n, ((s.data.toList.take n).filter dropC).length ≤ m := by
              intro n
              have := (List.Sublist.filter dropC (List.take_sublist n s.data.toList)).length_le
              omega
            rw [← hj]
            cases gk with
            | zero =>
              obtain rfl : k = s.size := by omega
              rw [List.take_of_length_le (by rw [hL]; exact Nat.le_refl _)] at hcv hj
              have hcv2 := conv_row wr D m cur hcb (s.data.toList.filter dropC) (by omega) hcv
              go_wp2
              go_ret
              exact ⟨rfl, hB3⟩
            | succ g =>
              have hk : k < s.size := by omega
              have hkz : (k : Int) < (s.size : Int) := by omega
              obtain ⟨x, hx⟩ : ∃ x : UInt8, s[k]'hk = x := ⟨_, rfl⟩
              have hxl : s.data.toList[k]? = some x := by rw [← hx]; exact Lib.data_getElem? s k hk
              have hx256 : (x.toNat : Int) < 256 := by have := x.toNat_lt; omega
              have hfs : (s.data.toList.take (k + 1)).filter dropC = (s.data.toList.take k).filter dropC ++ [x].filter dropC := by
                rw [take_snoc' hxl, List.filter_append]
              have hjn := hjm (k + 1)
              have hjo := hjm k
              have HF : Aside ((s.data.toList.take (k + 1)).filter dropC = (s.data.toList.take k).filter dropC ++ [x].filter dropC) := hfs
              have HV : Aside (∀ (t : Nat) (y : UInt8), ((s.data.toList.take k).filter dropC)[t]? = some y → cur[t]? = some (.int .u8 y.toNat)) := hcv
              have HJ : Aside (j = ((s.data.toList.take k).filter dropC).length) := hj
              clear hxl hjm
              cases hc : dropC x
              · rw [hfs] at hjn
                clear hfs hcv
                obtain ⟨a, n, hcell⟩ := HD.out x hc
                have hcell := (hB3.cell (p := ⟨B, x.toNat, none⟩) hBlt).trans hcell
                have hcp : ∀ (W : World) (d : Option Addr) (dLen dCap : Nat), (Builtin.copy_ #[56, 56] 3 #[.slice d dLen dCap, .slice (some a) 0 n]).run Tryd.prog W = .ok (goInt 0) W := fun W d dLen dCap => run_copy_none W _ _ _ 5 d (some a) dLen dCap 0 n Tryd.underlying56 (by kernel_rfl) (by simp)
                rw [← hj] at hjo
                clear hj
                have e : (s.data.toList.take (k + 1)).filter dropC = (s.data.toList.take k).filter dropC := by
                  rw [HF.out, List.filter_cons_of_neg (by rw [hc]; decide), List.filter_nil, List.append_nil]
                have HE : Aside ((s.data.toList.take (k + 1)).filter dropC = (s.data.toList.take k).filter dropC) := e
                clear e hjn
                rcases Nat.lt_or_eq_of_le hjo with hjlt | hjeq
                · have hne : ¬ (j = m) := by omega
                  have hne' : ¬ (m = j) := by omega
                  go_wp2
                  go_region
                  all_goals
                    go_wp2
                    go_roundg g
                    case measure => omega
                    case rel =>
                      refine ⟨k + 1, by omega, by go_num, ?_, hB3.drew, cur, hcs, hcb, ?_⟩
                      · rw [HE.out, ← HJ.out]
                      · rw [HE.out]
                        exact HV.out
                · obtain rfl : m = j := hjeq.symm
                  go_wp2
                  go_region
                  all_goals
                    go_wp2
                    go_roundg g
                    case measure => omega
                    case rel =>
                      refine ⟨k + 1, by omega, by go_num, ?_, hB3.drew, cur, hcs, hcb, ?_⟩
                      · rw [HE.out, ← HJ.out]
                      · rw [HE.out]
                        exact HV.out
              · rw [hfs, List.length_append, List.filter_cons_of_pos hc, List.filter_nil, List.length_singleton, ← hj] at hjn
                clear hfs hcv
                have hcell := (hB3.cell (p := ⟨B, x.toNat, none⟩) hBlt).trans (HK.out x hc)
                have hjlt : j < m := by omega
                obtain ⟨v, hcj⟩ : ∃ v, wr.cell? ⟨D, j, none⟩ = some v := ⟨cur[j]'(by omega), by
                  rw [Lib.cell_of_heap hcb]
                  exact Array.getElem?_eq_getElem (by omega)⟩
                have hfj : wr.frozen? ⟨D, j, none⟩ = false := Lib.frozen_of_heap hcb j
                clear hj hjo
                go_wp2
                go_roundg g
                case measure => omega
                case rel =>
                  refine ⟨k + 1, by omega, by go_num, ?_, hB3.setCell (p := ⟨D, j, none⟩) hDB _, cur.setIfInBounds j (.int .u8 x.toNat), by simpa using hcs, setCell_at hcb j _, fun t y hy => ?_⟩
                  · rw [HF.out, List.length_append, List.filter_cons_of_pos hc, ← HJ.out]
                    go_num
                  · rw [HF.out, List.filter_cons_of_pos hc] at hy
                    by_cases e : t = j
                    · subst e
                      rw [List.getElem?_append_right (by rw [← HJ.out]; exact Nat.le_refl _), ← HJ.out, Nat.sub_self] at hy
                      simp at hy
                      subst hy
                      rw [Array.getElem?_setIfInBounds_self_of_lt (by omega)]
                    · rw [Array.getElem?_setIfInBounds_ne (fun h => e h.symm)]
                      refine HV.out t y ?_
                      rcases Nat.lt_or_ge t ((s.data.toList.take k).filter dropC).length with h | h
                      · rwa [List.getElem?_append_left h] at hy
                      · rw [List.getElem?_append_right h] at hy
                        have : t - ((s.data.toList.take k).filter dropC).length ≠ 0 := by rw [← HJ.out] at h ⊢; omega
                        rw [List.getElem?_eq_none (by simp; omega)] at hy
                        cases hy
        · have hdz : decide (m < s.size) = false := decide_eq_false hz
          rw [hdz]
          go_wp2
          go_ret
          refine ⟨?_, hB⟩
          rw [filter_all (by omega)]
          rfl
      | succ g =>
        have hi : i < s.size := by omega
        have hiz : (i : Int) < (s.size : Int) := by omega
        obtain ⟨x, hx⟩ : ∃ x : UInt8, s[i]'hi = x := ⟨_, rfl⟩
        have hxl : s.data.toList[i]? = some x := by rw [← hx]; exact Lib.data_getElem? s i hi
        have hx256 : (x.toNat : Int) < 256 := by have := x.toNat_lt; omega
        have hsn := nd_snoc (s.data.toList.take i) x
        rw [← take_snoc' hxl] at hsn
        have hle : nd (s.data.toList.take (i + 1)) ≤ i + 1 := Nat.le_trans (nd_le _) (by simp; omega)
        have Hx : Aside (s.data.toList[i]? = some x) := hxl
        clear hxl
        cases hc : dropC x
        · obtain ⟨a, n, hcell⟩ := HD.out x hc
          have hcell := (hB.cell (p := ⟨B, x.toNat, none⟩) hBlt).trans hcell
          rw [hc] at hsn
          simp only [Bool.false_eq_true, if_false] at hsn
          obtain ⟨m', rfl⟩ : ∃ m', m = m' + 1 := ⟨m - 1, by omega⟩
          have HM0 : m' + nd (s.data.toList.take (i + 1)) = s.size := by omega
          have HM : Aside (m' + nd (s.data.toList.take (i + 1)) = s.size) := HM0
          have hlt : m' < s.size := by omega
          clear hsn hle hm HM0
          go_wp2
          go_roundg g
          case measure => omega
          case rel => exact ⟨i + 1, m', by omega, HM.out, by go_num, by rw [decide_eq_true hlt], by go_num, hB⟩
        · have hcell := (hB.cell (p := ⟨B, x.toNat, none⟩) hBlt).trans (HK.out x hc)
          rw [hc] at hsn
          simp only [if_true, Nat.add_zero] at hsn
          have HM0 : m + nd (s.data.toList.take (i + 1)) = s.size := by omega
          have HM : Aside (m + nd (s.data.toList.take (i + 1)) = s.size) := HM0
          clear hsn hle hm HM0
          go_wp2
          go_roundg g
          case measure => omega
          case rel => exact ⟨i + 1, m, by omega, HM.out, rfl, rfl, by go_num, hB⟩
end Go.Proofs.YtjlkahkehnakfaaDoor
