/- slices.Insert at nodes, walked: what it does to the world. No conditions. -/
import Derived.Test.YtkkcmobnhiiacaaInsA
set_option linter.unusedSimpArgs false
set_option linter.unusedVariables false
set_option maxRecDepth 100000
namespace Go.Proofs.Ytkkcmobnhiiacaa
open Go.RowKit

theorem nd_size (w : World) : (Go.sizeOf 42).run Try.prog w = .ok 4 w := Try.sizeOf42 w
/-- The cells of a row with others put in at place o: what stood there moves up. -/
def ins1 (cur : List Value) (o k : Nat) (len : Nat) : List Value := cur.take (o + k) ++ (cur.drop o).take len ++ cur.drop (o + k + len)
def ins2 (cur : List Value) (o : Nat) (vs : List Value) (len : Nat) : List Value := (ins1 cur o vs.length len).take o ++ vs ++ (ins1 cur o vs.length len).drop (o + vs.length)
theorem ins1_len {cur : List Value} {o k len : Nat} (h : o + k + len ≤ cur.length) : (ins1 cur o k len).length = cur.length := by
  simp [ins1]; omega
theorem ins2_len {cur : List Value} {o len : Nat} {vs : List Value} (h : o + vs.length + len ≤ cur.length) : (ins2 cur o vs len).length = cur.length := by
  have := ins1_len h
  simp [ins2]; omega
theorem ins2_cells {cur : List Value} {base n i : Nat} {vs : List Value} (hvl : vs.length = 4) (hi : i ≤ n) (h : base + (n + 1) * 4 ≤ cur.length) :
    ((ins2 cur (base + i * 4) vs ((n - i) * 4)).drop base).take ((n + 1) * 4) = ((cur.drop base).take (n * 4)).take (i * 4) ++ vs ++ ((cur.drop base).take (n * 4)).drop (i * 4) := by
  have l1 : (ins1 cur (base + i * 4) vs.length ((n - i) * 4)).length = cur.length := ins1_len (by omega)
  apply List.ext_getElem?
  intro p
  rw [List.getElem?_take, List.getElem?_drop]
  unfold ins2
  by_cases h0 : p < (n + 1) * 4
  · rw [if_pos h0]
    by_cases h1 : p < i * 4
    · rw [List.append_assoc, List.getElem?_append_left (by simp [l1]; omega), List.getElem?_take, if_pos (by omega), List.append_assoc, List.getElem?_append_left (by simp; omega), List.getElem?_take, if_pos h1, List.getElem?_take, if_pos (by omega), List.getElem?_drop]
      unfold ins1
      rw [List.append_assoc, List.getElem?_append_left (by simp; omega), List.getElem?_take, if_pos (by omega)]
    · by_cases h2 : p < i * 4 + 4
      · rw [List.append_assoc, List.getElem?_append_right (by simp [l1]; omega), List.getElem?_append_left (by simp [l1]; omega), List.append_assoc, List.getElem?_append_right (by simp; omega), List.getElem?_append_left (by simp; omega)]
        congr 1
        simp [l1]
        omega
      · rw [List.getElem?_append_right (by simp [l1]; omega), List.getElem?_append_right (by simp; omega), List.getElem?_drop, List.getElem?_drop, List.getElem?_take, if_pos (by simp; omega), List.getElem?_drop]
        unfold ins1
        rw [List.append_assoc, List.getElem?_append_right (by simp [l1]; omega), List.getElem?_append_left (by simp [l1]; omega), List.getElem?_take, if_pos (by simp [l1]; omega), List.getElem?_drop]
        congr 1
        simp [l1]
        omega
  · rw [if_neg h0, List.getElem?_eq_none]
    simp
    omega
theorem mem_mid {L : List Value} {base n k : Nat} {v : Value} (hk : k ≤ n) (hv : v ∈ (L.drop (base + k * 4)).take ((n - k) * 4)) : v ∈ (L.drop base).take (n * 4) := by
  have e : (L.drop (base + k * 4)).take ((n - k) * 4) = ((L.drop base).take (n * 4)).drop (k * 4) := by
    rw [List.drop_take, List.drop_drop]
    congr 1
    omega
  rw [e] at hv
  exact List.mem_of_mem_drop hv
set_option maxHeartbeats 4000000 in
set_option maxRecDepth 100000 in
theorem ins_mid (b base n c i vb voff vc : Nat) (cur : Array Value) (tB tV : TypeId) (kV : Nat) (vs : List Value) (w : World) (hi : i < n) (hroom : n + 1 ≤ c) (hc : c ≤ 9223372036854775807) (hb : w.heap[b]? = some (.cells cur tB (0, 0))) (hfit : base + c * 4 ≤ cur.size) (hne : vb ≠ b)
    (hcur : ∀ v ∈ (cur.toList.drop base).take (n * 4), v.oneCell' = true) (hsv : w.shape? vb = some (tV, kV)) (hkV : kV ≠ 0) (hvl : vs.length = 4) (hvs : ∀ j v, vs[j]? = some v → w.cell? ⟨vb, voff + j, none⟩ = some v) (h1v : ∀ v ∈ vs, v.oneCell' = true) :
    Calls Try.prog 38 #[.slice (some ⟨b, base, none⟩) n c, .int .i64 i, .slice (some ⟨vb, voff, none⟩) 1 vc] w fun e w' => e = .returned (.slice (some ⟨b, base, none⟩) (n + 1) c) ∧ w' = w.drew.setRow b (ins2 cur.toList (base + i * 4) vs ((n - i) * 4)).toArray := by
  have hov' : ∀ o lb cb, (callFunc 43 #[.slice (some ⟨vb, voff, none⟩) 1 vc, .slice (some ⟨b, o, none⟩) lb cb]).run Try.prog w = .ok (.value (.bool false)) w := fun o lb cb => by
    rw [run_callFunc_extern Try.func43 (by kernel_rfl) (by kernel_rfl) (by kernel_rfl) (e := Extern.SlicesOverlaps.overlaps #[22, 22] #[4]) (by kernel_rfl),
      run_overlaps_apart' w 22 4 42 Try.underlying22 4 nd_size ⟨vb, voff, none⟩ ⟨b, o, none⟩ 1 vc lb cb hne tV tB kV cur.size hsv hkV (by simp [World.shape?, hb]) (Lib.frozen_of_heap hb o) (Lib.frozen_of_heap hb cur.size)]
    rfl
  have hov := hov' (base + (i + 1) * 4) (n - i) (c - (i + 1))
  clear hov'
  have hz2 : ¬ ((i : Int) = (n : Int)) := by omega
  have hw1 : IntKind.i64.wrap ((i : Int) + 1) = (i : Int) + 1 := by rw [IntKind.wrap_i64]; omega
  have hb1 : (0 : Int) ≤ (i : Int) + 1 := by omega
  have hin0 : i ≤ n := by omega
  have hb3 : (i : Int) ≤ (n : Int) + 1 := by omega
  have hb2 : ¬ (c = i + 1) := by omega
  have hb4 : ¬ (c = i) := by omega
  go_enter Try.func38, Try.ntmps38
  have hl1 : ((cur.toList.drop (base + i * 4)).take ((n - i) * 4)).length = (n - i) * 4 := by simp; omega
  have hin : (n + 1 - (i + 1)) = n - i := by omega
  have hmin : Nat.min (n + 1 - i) (n - i) = n - i := Nat.min_eq_right (by omega)
  have hmin2 : Nat.min 1 (n + 1 - i) = 1 := Nat.min_eq_left (by omega)
  have hcp1 : ∀ ty dc sc, (Builtin.copy_ #[22, 22] ty #[.slice (some ⟨b, base + (i + 1) * 4, none⟩) (n - i) dc, .slice (some ⟨b, base + i * 4, none⟩) (n + 1 - i) sc]).run Try.prog w.drew = .ok (goInt (n - i : Nat)) (w.drew.setRow b (ins1 cur.toList (base + i * 4) 4 ((n - i) * 4)).toArray) := fun ty dc sc => by
    have := run_copy_z (P := Try.prog) (dT := 22) (sT := 22) (ty := ty) (dCap := dc) w.drew Try.underlying22 nd_size (g := b) (o := base + (i + 1) * 4) (dLen := n - i) (cur := cur) hb (x := .slice (some ⟨b, base + i * 4, none⟩) (n + 1 - i) sc) (m := n + 1 - i) (news := (cur.toList.drop (base + i * 4)).take ((n - i) * 4)) (by simp [Builtin.lenOf]) (by
      rw [hmin]
      refine run_firstCells_some (P := Try.prog) w.drew 4 (n - i) ⟨b, base + i * 4, none⟩ (n + 1 - i) sc _ hl1 (fun j v hj => ?_)
      have hjl := (List.getElem?_eq_some_iff.1 hj).1
      rw [hl1] at hjl
      rw [List.getElem?_take, if_pos hjl, List.getElem?_drop] at hj
      rw [Addr.add_lit, Lib.cell_of_heap (w := w.drew) hb]
      simpa using hj) (fun v hv => hcur v (mem_mid (by omega) hv)) (by rw [hl1]; omega)
    rw [hmin, hl1] at this
    rw [this]
    unfold ins1
    rw [show base + i * 4 + 4 = base + (i + 1) * 4 by omega]
  have hl2 : (ins1 cur.toList (base + i * 4) 4 ((n - i) * 4)).length = cur.size := by rw [ins1_len (by simp; omega)]; simp
  have hb2' : (w.drew.setRow b (ins1 cur.toList (base + i * 4) 4 ((n - i) * 4)).toArray).heap[b]? = some (.cells (ins1 cur.toList (base + i * 4) 4 ((n - i) * 4)).toArray tB (0, 0)) := setRow_heap w.drew b cur _ tB (0, 0) hb
  have hcp2 : ∀ ty dc, (Builtin.copy_ #[22, 22] ty #[.slice (some ⟨b, base + i * 4, none⟩) (n + 1 - i) dc, .slice (some ⟨vb, voff, none⟩) 1 vc]).run Try.prog (w.drew.setRow b (ins1 cur.toList (base + i * 4) 4 ((n - i) * 4)).toArray) = .ok (goInt (1 : Nat)) (w.drew.setRow b (ins2 cur.toList (base + i * 4) vs ((n - i) * 4)).toArray) := fun ty dc => by
    have := run_copy_z (P := Try.prog) (dT := 22) (sT := 22) (ty := ty) (dCap := dc) _ Try.underlying22 nd_size (g := b) (o := base + i * 4) (dLen := n + 1 - i) hb2' (x := .slice (some ⟨vb, voff, none⟩) 1 vc) (m := 1) (news := vs) (by simp [Builtin.lenOf]) (by
      rw [hmin2]
      refine run_firstCells_some (P := Try.prog) _ 4 1 ⟨vb, voff, none⟩ 1 vc vs (by omega) (fun j v hj => ?_)
      rw [Addr.add_lit, cell_of_block (w := w.drew) (setRow_other w.drew b vb _ hne)]
      exact hvs j v hj) h1v (by simp only [List.size_toArray, hl2]; omega)
    rw [hmin2] at this
    rw [this, setRow_setRow]
    simp only [ins2, hvl]
  go_wp2_with (simp only [hov])
  go_region_law (refine step_copy_eq rfl _ _ 22 22 rfl _ _ (by simp [Act.eval, Act.put]) (by simp [Act.eval, Act.put]) (hcp1 _ _ _) ?_)
  go_wp2_with (at_builtin; refine wpList_copy_eq rfl _ _ 22 22 rfl _ _ rfl rfl _ _ (hcp2 _ _) ?_)
  go_ret
  exact ⟨rfl, rfl⟩
end Go.Proofs.Ytkkcmobnhiiacaa
