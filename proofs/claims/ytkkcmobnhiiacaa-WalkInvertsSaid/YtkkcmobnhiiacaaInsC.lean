/- slices.Insert at nodes, walked: the other ways. No conditions. -/
import Derived.Test.YtkkcmobnhiiacaaInsB
set_option linter.unusedSimpArgs false
set_option linter.unusedVariables false
set_option maxRecDepth 100000
namespace Go.Proofs.Ytkkcmobnhiiacaa
open Go.RowKit

def ndZero : Value := .agg #[.string ⟨#[]⟩, .slice none 0 0, .string ⟨#[]⟩, .slice none 0 0]
theorem node_info : ∃ i, Try.prog.info? 42 = some i ∧ i.zero = some ndZero ∧ i.size = 4 ∧ i.bytes = 80 := by
  have h : (Try.prog.info? 42).map (fun i => (i.zero, i.size, i.bytes)) = some (some ndZero, 4, 80) := by kernel_rfl
  obtain ⟨i, hi, e⟩ := Option.map_eq_some_iff.1 h
  simp only [Prod.mk.injEq] at e
  exact ⟨i, hi, e.1, e.2.1, e.2.2⟩
/-- A new row of n elements, whose cells are tgt. -/
structure NewRow (w w' : World) (v : Value) (n : Nat) (tgt : List Value) : Prop where
  is : ∃ G Z, v = .slice (some ⟨w.heap.size, 0, none⟩) n G ∧ n ≤ G ∧ G ≤ maxLen ∧ w'.heap[w.heap.size]? = some (.cells Z 42 (0, 0)) ∧ G * 4 ≤ Z.size ∧ Z.toList.take (n * 4) = tgt
  size : w'.heap.size = w.heap.size + 1
  below : Below w.heap.size w w'
section
variable {P : Program}
/-- append(s, make(S, k)...), where there is no room. -/
theorem run_append_int_grow (w : World) {t t' ty e : TypeId} {i : TypeInfo} {z : Nat} {zv : Value} (ht : P.underlying t = some (.slice e)) (hi : P.info? e = some i) (hiz : i.size = z) (hz : i.zero = some zv) (ht' : P.underlying t' = some (.int .i64)) {s : Option Addr} {sLen sCap : Nat} {olds : List Value} (ho : (Builtin.firstCells z sLen (.slice s sLen sCap)).run P w.drew = .ok olds.toArray w.drew)
    {k : Nat} (hk : k * z ≠ 0) (hkm : k ≤ 140737488355328) (hg : sCap < sLen + k) (h63 : sLen + k ≤ maxLen) (hb : (sLen + k) * i.bytes ≤ 140737488355328) :
    (Builtin.append_ #[t, t'] ty #[.slice s sLen sCap, .int .i64 k]).run P w =
      .ok (.slice (some ⟨w.heap.size, 0, none⟩) (sLen + k) (grownCap w (sLen + k) sCap e)) (w.drew.alloc (.cells (olds.toArray ++ Builtin.zeroCells zv.cells k ++ Builtin.zeroCells zv.cells (grownCap w (sLen + k) sCap e - (sLen + k))) e)) := by
  subst hiz
  have hn : ¬ (sLen + k ≤ sCap) := by omega
  have h63' : ¬ (9223372036854775807 < ((sLen : Int) + (k : Int))) := by simp only [maxLen] at h63; omega
  have hfit : ¬ (281474976710656 < Builtin.nextslicecap (sLen + k) sCap * i.bytes) := by
    have h := Go.Room.nextslicecap_le' (need := sLen + k) (old := sCap) hg
    have h2 := Nat.mul_le_mul_right i.bytes h
    rw [Nat.mul_assoc] at h2
    omega
  have hw : IntKind.i64.wrap (k : Int) = (k : Int) := by rw [IntKind.wrap_i64]; omega
  have hk0 : ¬ (k : Int) < 0 := by omega
  have hkb : ¬ ((281474976710656 : Int) < (k : Int) * (i.bytes : Int)) := by
    have h1 : k * i.bytes ≤ (sLen + k) * i.bytes := Nat.mul_le_mul_right _ (by omega)
    have h2 : ((k * i.bytes : Nat) : Int) ≤ 140737488355328 := by omega
    rw [Int.natCast_mul] at h2
    omega
  simp [Builtin.append_, run_underlying ht, run_underlying ht', sizeOf, typeInfo, zeroValue, hi, hz, asInt, asIntOf, hw, hk0, hkb, hk, hn, h63', hfit, Question.forced, newRow, grownCap, ho]
  try (congr 2; apply Array.ext'; simp [List.append_assoc])
end
set_option maxHeartbeats 4000000 in
set_option maxRecDepth 100000 in
theorem ins_end_grow (s : Option Addr) (n c vb voff vc : Nat) (olds vs : List Value) (w : World) (hnc : n ≤ c) (hc : c < n + 1) (hbig : (n + 1) * 80 ≤ 140737488355328) (ho : (Builtin.firstCells 4 n (.slice s n c)).run Try.prog w.drew = .ok olds.toArray w.drew) (hol : olds.length = n * 4)
    (hnil : s = none → n = 0) (hvl : vs.length = 4) (hvs : ∀ j v, vs[j]? = some v → w.cell? ⟨vb, voff + j, none⟩ = some v) (h1v : ∀ v ∈ vs, v.oneCell' = true) :
    Calls Try.prog 38 #[.slice s n c, .int .i64 n, .slice (some ⟨vb, voff, none⟩) 1 vc] w fun e w' => ∃ v, e = .returned v ∧ NewRow w w' v (n + 1) (olds ++ vs) := by
  obtain ⟨i0, hi0, hz, hs, hby⟩ := node_info
  have hap : ∀ ty, (Builtin.append_ #[22, 22] ty #[.slice s n c, .slice (some ⟨vb, voff, none⟩) 1 vc]).run Try.prog w = _ := fun ty =>
    run_append_grow' (P := Try.prog) (t := 22) (t' := 22) (ty := ty) (z := 4) (m := 1) (news := vs) w Try.underlying22 hi0 hs hz (by kernel_rfl) ho (x := .slice (some ⟨vb, voff, none⟩) 1 vc) (fun w' => by simp [Builtin.lenOf]) (run_firstCells_some (P := Try.prog) w.drew 4 1 ⟨vb, voff, none⟩ 1 vc vs (by omega) (fun j v hj => by rw [Addr.add_lit]; exact hvs j v hj)) (by omega) (by simp only [maxLen]; omega) (by rw [hby]; omega)
  have hge := grownCap_ge w (n + 1) c 42
  have hcm := grownCap_le_maxLen w (n + 1) c 42 (by simp only [maxLen]; omega)
  generalize hG : grownCap w (n + 1) c 42 = G at *
  obtain ⟨w1, hw1⟩ : ∃ w1, w1 = w.drew.alloc (.cells (olds.toArray ++ vs.toArray ++ Builtin.zeroCells ndZero.cells (G - (n + 1))) 42) := ⟨_, rfl⟩
  rw [← hw1] at hap
  have hz1 : ¬ ((1 : Int) = 0) := by omega
  have fin : NewRow w w1 (.slice (some ⟨w.heap.size, 0, none⟩) (n + 1) G) (n + 1) (olds ++ vs) := by
    refine ⟨⟨G, olds.toArray ++ vs.toArray ++ Builtin.zeroCells ndZero.cells (G - (n + 1)), rfl, hge, hcm, ?_, ?_, ?_⟩, ?_, ?_⟩
    · rw [hw1]; exact heap_alloc_last w.drew _
    · simp only [Array.size_append, List.size_toArray, size_zeroCells, hol, hvl]
      have : ndZero.cells.size = 4 := rfl
      rw [this]
      omega
    · simp only [Array.toList_append, List.append_assoc]
      rw [← List.append_assoc, List.take_left']
      simp [hol, hvl]; omega
    · rw [hw1]; show (w.heap.push _).size = _; simp
    · rw [hw1]; exact ((Below.refl w.heap.size w).drew).alloc (Nat.le_refl _) _
  clear hw1
  go_enter Try.func38, Try.ntmps38
  cases s with
  | none =>
    have h0 := hnil rfl
    subst h0
    go_wp2_with (at_builtin; refine wpList_app_eq rfl _ _ 22 22 rfl _ _ rfl rfl _ _ (hap _) ?_)
    go_ret
    exact ⟨_, rfl, fin⟩
  | some a =>
    obtain ⟨ab, ao, asp⟩ := a
    go_wp2_with (at_builtin; refine wpList_app_eq rfl _ _ 22 22 rfl _ _ rfl rfl _ _ (hap _) ?_)
    all_goals (go_ret; exact ⟨_, rfl, fin⟩)
/-- append(s[:i], zeros), then both halves copied in. -/
def grow2 (olds1 cs vs : List Value) (Z : List Value) : List Value := olds1 ++ vs ++ cs ++ Z
set_option maxHeartbeats 8000000 in
set_option maxRecDepth 100000 in
theorem ins_grow (b base n i vb voff vc : Nat) (cur : Array Value) (tB : TypeId) (vs : List Value) (w : World) (hi : i < n) (hbig : (n + 1) * 80 ≤ 140737488355328) (hb : w.heap[b]? = some (.cells cur tB (0, 0))) (hfit : base + n * 4 ≤ cur.size)
    (hcur : ∀ v ∈ (cur.toList.drop base).take (n * 4), v.oneCell' = true) (hvb : vb < w.heap.size) (hvl : vs.length = 4) (hvs : ∀ j v, vs[j]? = some v → w.cell? ⟨vb, voff + j, none⟩ = some v) (h1v : ∀ v ∈ vs, v.oneCell' = true) :
    Calls Try.prog 38 #[.slice (some ⟨b, base, none⟩) n n, .int .i64 i, .slice (some ⟨vb, voff, none⟩) 1 vc] w fun e w' => ∃ v, e = .returned v ∧ NewRow w w' v (n + 1) (((cur.toList.drop base).take (n * 4)).take (i * 4) ++ vs ++ ((cur.toList.drop base).take (n * 4)).drop (i * 4)) := by
  obtain ⟨i0, hi0, hz, hs, hby⟩ := node_info
  have hblt : b < w.heap.size := by
    rcases Nat.lt_or_ge b w.heap.size with h | h
    · exact h
    · simp [Array.getElem?_eq_none h] at hb
  obtain ⟨A, hA⟩ : ∃ A, A = ((cur.toList.drop base).take (n * 4)).take (i * 4) := ⟨_, rfl⟩
  obtain ⟨B, hB⟩ : ∃ B, B = ((cur.toList.drop base).take (n * 4)).drop (i * 4) := ⟨_, rfl⟩
  rw [← hA, ← hB]
  have hAl : A.length = i * 4 := by rw [hA]; simp; omega
  have hBl : B.length = (n - i) * 4 := by rw [hB]; simp; omega
  have hAc : ∀ (w' : World), w'.heap[b]? = w.heap[b]? → ∀ j v, A[j]? = some v → w'.cell? ⟨b, base + j, none⟩ = some v := fun w' hw j v hj => by
    have hjl := (List.getElem?_eq_some_iff.1 hj).1
    rw [hA, List.getElem?_take, if_pos (by omega), List.getElem?_take, if_pos (by omega), List.getElem?_drop] at hj
    rw [Lib.cell_of_heap (hw.trans hb)]
    simpa using hj
  have hBc : ∀ (w' : World), w'.heap[b]? = w.heap[b]? → ∀ j v, B[j]? = some v → w'.cell? ⟨b, base + i * 4 + j, none⟩ = some v := fun w' hw j v hj => by
    have hjl := (List.getElem?_eq_some_iff.1 hj).1
    rw [hB, List.getElem?_drop, List.getElem?_take, if_pos (by omega), List.getElem?_drop] at hj
    rw [Lib.cell_of_heap (hw.trans hb)]
    rw [show base + (i * 4 + j) = base + i * 4 + j by omega] at hj
    simpa using hj
  have hB1 : ∀ v ∈ B, v.oneCell' = true := fun v hv => hcur v (by rw [hB] at hv; exact List.mem_of_mem_drop hv)
  have hap : ∀ ty, (Builtin.append_ #[22, 3] ty #[.slice (some ⟨b, base, none⟩) i n, .int .i64 ((n + 1 - i : Nat) : Int)]).run Try.prog w = _ := fun ty =>
    run_append_int_grow (P := Try.prog) (t := 22) (t' := 3) (ty := ty) (z := 4) (olds := A) w Try.underlying22 hi0 hs hz Try.underlying3 (run_firstCells_some (P := Try.prog) w.drew 4 i ⟨b, base, none⟩ i n A hAl (fun j v hj => by rw [Addr.add_lit]; exact hAc w.drew rfl j v hj)) (k := n + 1 - i) (by omega) (by omega) (by omega) (by simp only [maxLen]; omega) (by rw [hby, show i + (n + 1 - i) = n + 1 by omega]; omega)
  rw [show i + (n + 1 - i) = n + 1 by omega, show ((n + 1 - i : Nat) : Int) = (n : Int) + 1 - (i : Int) by omega] at hap
  have hge := grownCap_ge w (n + 1) n 42
  have hcm := grownCap_le_maxLen w (n + 1) n 42 (by simp only [maxLen]; omega)
  generalize hG : grownCap w (n + 1) n 42 = G at *
  obtain ⟨Z, hZ⟩ : ∃ Z, Z = A.toArray ++ Builtin.zeroCells ndZero.cells (n + 1 - i) ++ Builtin.zeroCells ndZero.cells (G - (n + 1)) := ⟨_, rfl⟩
  have hZs : Z.size = G * 4 := by
    rw [hZ]
    simp only [Array.size_append, List.size_toArray, size_zeroCells, hAl, show ndZero.cells.size = 4 from rfl]
    omega
  have hZA : Z.toList.take (i * 4) = A := by
    rw [hZ]
    simp only [Array.toList_append, List.append_assoc]
    rw [List.take_left']
    exact hAl
  rw [← hZ] at hap
  clear hZ
  obtain ⟨w1, hw1⟩ : ∃ w1, w1 = w.drew.alloc (.cells Z 42) := ⟨_, rfl⟩
  rw [← hw1] at hap
  obtain ⟨D, hD⟩ : ∃ D, D = w.heap.size := ⟨_, rfl⟩
  have h1D : w1.heap[D]? = some (.cells Z 42 (0, 0)) := by rw [hw1, hD]; exact heap_alloc_last w.drew _
  have h1B : Below w.heap.size w w1 := by rw [hw1]; exact ((Below.refl w.heap.size w).drew).alloc (Nat.le_refl _) _
  have h1s : w1.heap.size = w.heap.size + 1 := by rw [hw1]; show (w.heap.push _).size = _; simp
  clear hw1
  -- the value is laid
  obtain ⟨Z1, hZ1⟩ : ∃ Z1, Z1 = (Z.toList.take (i * 4) ++ vs ++ Z.toList.drop (i * 4 + vs.length)).toArray := ⟨_, rfl⟩
  have hZ1s : Z1.size = G * 4 := by rw [hZ1]; simp; omega
  obtain ⟨w2, hw2⟩ : ∃ w2, w2 = w1.setRow D Z1 := ⟨_, rfl⟩
  have hmin1 : Nat.min 1 (n + 1 - i) = 1 := Nat.min_eq_left (by omega)
  have hcp1 : ∀ ty dc, (Builtin.copy_ #[22, 22] ty #[.slice (some ⟨D, i * 4, none⟩) (n + 1 - i) dc, .slice (some ⟨vb, voff, none⟩) 1 vc]).run Try.prog w1 = .ok (goInt (1 : Nat)) w2 := fun ty dc => by
    have := run_copy_z (P := Try.prog) (dT := 22) (sT := 22) (ty := ty) (dCap := dc) w1 Try.underlying22 nd_size (g := D) (o := i * 4) (dLen := n + 1 - i) h1D (x := .slice (some ⟨vb, voff, none⟩) 1 vc) (m := 1) (news := vs) (by simp [Builtin.lenOf]) (by
      rw [hmin1]
      refine run_firstCells_some (P := Try.prog) w1 4 1 ⟨vb, voff, none⟩ 1 vc vs (by omega) (fun j v hj => ?_)
      rw [Addr.add_lit, h1B.cell (p := ⟨vb, voff + j, none⟩) hvb]
      exact hvs j v hj) h1v (by omega)
    rw [hmin1] at this
    rw [this, hw2, hZ1]
  have h2D : w2.heap[D]? = some (.cells Z1 42 (0, 0)) := by rw [hw2]; exact setRow_heap w1 D Z Z1 _ (0, 0) h1D
  have h2B : Below w.heap.size w w2 := by rw [hw2]; exact below_setRow h1B (by omega) _
  have h2s : w2.heap.size = w.heap.size + 1 := by rw [hw2, size_setRow]; exact h1s
  clear hw2
  -- what stood behind it
  obtain ⟨Z2, hZ2⟩ : ∃ Z2, Z2 = (Z1.toList.take ((i + 1) * 4) ++ B ++ Z1.toList.drop ((i + 1) * 4 + B.length)).toArray := ⟨_, rfl⟩
  obtain ⟨w3, hw3⟩ : ∃ w3, w3 = w2.drew.setRow D Z2 := ⟨_, rfl⟩
  have hmin2 : Nat.min (n - i) (n - i) = n - i := Nat.min_self _
  have hcp2 : ∀ ty dc sc, (Builtin.copy_ #[22, 22] ty #[.slice (some ⟨D, (i + 1) * 4, none⟩) (n - i) dc, .slice (some ⟨b, base + i * 4, none⟩) (n - i) sc]).run Try.prog w2.drew = .ok (goInt (n - i : Nat)) w3 := fun ty dc sc => by
    have := run_copy_z (P := Try.prog) (dT := 22) (sT := 22) (ty := ty) (dCap := dc) w2.drew Try.underlying22 nd_size (g := D) (o := (i + 1) * 4) (dLen := n - i) h2D (x := .slice (some ⟨b, base + i * 4, none⟩) (n - i) sc) (m := n - i) (news := B) (by simp [Builtin.lenOf]) (by
      rw [hmin2]
      refine run_firstCells_some (P := Try.prog) w2.drew 4 (n - i) ⟨b, base + i * 4, none⟩ (n - i) sc B hBl (fun j v hj => ?_)
      rw [Addr.add_lit]
      exact hBc w2.drew (h2B.block b hblt) j v hj) hB1 (by omega)
    rw [hmin2] at this
    rw [this, hw3, hZ2]
  have h3D : w3.heap[D]? = some (.cells Z2 42 (0, 0)) := by rw [hw3]; exact setRow_heap w2.drew D Z1 Z2 _ (0, 0) h2D
  have h3B : Below w.heap.size w w3 := by rw [hw3]; exact below_setRow h2B.drew (by omega) _
  have h3s : w3.heap.size = w.heap.size + 1 := by rw [hw3, size_setRow]; exact h2s
  clear hw3
  have hZ2s : Z2.size = G * 4 := by rw [hZ2]; simp; omega
  have hZ1A : Z1.toList.take (i * 4 + 4) = A ++ vs := by
    rw [hZ1]
    rw [List.take_append_of_le_length (by simp; omega), hZA, List.take_of_length_le (by simp; omega)]
  have hfin : Z2.toList.take ((n + 1) * 4) = A ++ vs ++ B := by
    rw [hZ2]
    rw [List.take_append_of_le_length (by simp; omega), show (i + 1) * 4 = i * 4 + 4 by omega, hZ1A, List.take_of_length_le (by simp; omega)]
  have fin : NewRow w w3 (.slice (some ⟨D, 0, none⟩) (n + 1) G) (n + 1) (A ++ vs ++ B) :=
    ⟨⟨G, Z2, by rw [hD], hge, hcm, by rw [← hD]; exact h3D, by omega, hfin⟩, h3s, h3B⟩
  rw [← hD] at hap
  have hz2 : ¬ ((i : Int) = (n : Int)) := by omega
  have hw1 : IntKind.i64.wrap ((i : Int) + 1) = (i : Int) + 1 := by rw [IntKind.wrap_i64]; omega
  have hb1 : (0 : Int) ≤ (i : Int) + 1 := by omega
  have hin0 : i ≤ n := by omega
  have hb3 : (i : Int) ≤ (n : Int) + 1 := by omega
  have hb4 : ¬ (n = i) := by omega
  have hg1 : ¬ (G = i) := by omega
  have hg2 : ¬ (G = i + 1) := by omega
  clear hA hB hAc hBc hZA hZ1A hZ1 hZ2 hfin hD
  go_enter Try.func38, Try.ntmps38
  go_wp2_with (at_builtin; first | (refine wpList_app_eq rfl _ _ 22 3 rfl _ _ rfl rfl _ _ (hap _) ?_) | (refine wpList_copy_eq rfl _ _ 22 22 rfl _ _ rfl rfl _ _ (hcp1 _ _) ?_))
  go_region_law (refine step_copy_eq rfl _ _ 22 22 rfl _ _ (by simp [Act.eval, Act.put]) (by simp [Act.eval, Act.put]) (hcp2 _ _ _) ?_)
  go_wp2
  go_ret
  exact ⟨_, rfl, fin⟩
end Go.Proofs.Ytkkcmobnhiiacaa
