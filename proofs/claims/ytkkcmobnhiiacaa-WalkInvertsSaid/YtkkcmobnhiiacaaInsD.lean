/- slices.Insert at nodes: the last way; slices.Delete at nodes, walked. No conditions. -/
import Derived.Test.YtkkcmobnhiiacaaInsC
set_option linter.unusedSimpArgs false
set_option linter.unusedVariables false
set_option maxRecDepth 100000
namespace Go.Proofs.Ytkkcmobnhiiacaa
open Go.RowKit

set_option maxHeartbeats 4000000 in
set_option maxRecDepth 100000 in
theorem ins_end_room (b base n c vb voff vc : Nat) (cur : Array Value) (tB : TypeId) (vs : List Value) (w : World) (hroom : n + 1 ≤ c) (hc : c ≤ 9223372036854775807) (hb : w.heap[b]? = some (.cells cur tB (0, 0))) (hfit : base + c * 4 ≤ cur.size)
    (hvl : vs.length = 4) (hvs : ∀ j v, vs[j]? = some v → w.cell? ⟨vb, voff + j, none⟩ = some v) (h1v : ∀ v ∈ vs, v.oneCell' = true) :
    Calls Try.prog 38 #[.slice (some ⟨b, base, none⟩) n c, .int .i64 n, .slice (some ⟨vb, voff, none⟩) 1 vc] w fun e w' => e = .returned (.slice (some ⟨b, base, none⟩) (n + 1) c) ∧ w' = w.setRow b (cur.toList.take (base + n * 4) ++ vs ++ cur.toList.drop (base + n * 4 + vs.length)).toArray := by
  obtain ⟨i0, hi0, hz, hs, hby⟩ := node_info
  have hap : ∀ ty, (Builtin.append_ #[22, 22] ty #[.slice (some ⟨b, base, none⟩) n c, .slice (some ⟨vb, voff, none⟩) 1 vc]).run Try.prog w = _ := fun ty =>
    run_append_room' (P := Try.prog) (t := 22) (t' := 22) (ty := ty) (z := 4) (m := 1) (news := vs) w Try.underlying22 hi0 hs (by kernel_rfl) (CellsAt.of hb) (x := .slice (some ⟨vb, voff, none⟩) 1 vc) (fun w' => by simp [Builtin.lenOf]) (run_firstCells_some (P := Try.prog) w 4 1 ⟨vb, voff, none⟩ 1 vc vs (by omega) (fun j v hj => by rw [Addr.add_lit]; exact hvs j v hj)) h1v hroom (by omega)
  go_enter Try.func38, Try.ntmps38
  go_wp2_with (at_builtin; refine wpList_app_eq rfl _ _ 22 22 rfl _ _ rfl rfl _ _ (hap _) ?_)
  go_ret
  exact ⟨rfl, by rw [hvl, List.append_assoc]⟩

section
variable {P : Program}
theorem run_clear_z (w : World) {t ty e : TypeId} {i : TypeInfo} {zv : Value} (hu : P.underlying t = some (.slice e)) (hi : P.info? e = some i) (hz : i.zero = some zv) {g o k c : Nat} (hk : k ≠ 0) {cur : Array Value} {tB : TypeId} (hg : w.heap[g]? = some (.cells cur tB (0, 0)))
    (h1 : ∀ u ∈ (Builtin.zeroCells zv.cells k).toList, u.oneCell' = true) (hfit : o + (Builtin.zeroCells zv.cells k).size ≤ cur.size) :
    (Builtin.clear_ #[t] ty #[.slice (some ⟨g, o, none⟩) k c]).run P w = .ok (.tuple #[]) (w.setRow g (cur.toList.take o ++ (Builtin.zeroCells zv.cells k).toList ++ cur.toList.drop (o + (Builtin.zeroCells zv.cells k).size)).toArray) := by
  have hst := run_storeCells_thaw (z := 1) (P := P) g o tB (0, 0) (Builtin.zeroCells zv.cells k).toList 0 cur w hg (.inl rfl) (by simpa using hfit) h1
  simp only [Nat.add_zero] at hst
  cases k with
  | zero => exact absurd rfl hk
  | succ k => simp [Builtin.clear_, run_underlying hu, zeroValue, typeInfo, hi, hz, hst]
theorem wpList_clear_eq {w : World} {ops : Array Oper} {rest : List Oper} {o : Oper} {a : Act} {Q : Exit → Act → World → Prop} (hgd : o.guard = none) (d : Operand) (dT : TypeId)
    (ho : o.op = .call { callee := .builtin .clear, args := #[d], argTypes := #[dT] }) (v : Value) (hd : a.eval d = v) (r : Value) (w' : World) (hrun : (Builtin.clear_ #[dT] o.type #[v]).run P w = .ok r w')
    (h : wpList P ops Q rest (a.put o.dst r) w') : wpList P ops Q (o :: rest) a w := by
  refine wpList_plain hgd fun K hK => ?_
  unfold Oper.wp
  simp [execOp, ho, resolve, invoke, builtin, hd, hrun, Result.andThen]
  exact hK _ _ h
end
/-- The cells of a row without those of one element: what stood behind it moves down. -/
def del1 (cur : List Value) (base i n : Nat) : List Value := cur.take (base + i * 4) ++ (cur.drop (base + (i + 1) * 4)).take ((n - (i + 1)) * 4) ++ cur.drop (base + i * 4 + (n - (i + 1)) * 4)
theorem del1_len {cur : List Value} {base i n : Nat} (hi : i < n) (h : base + n * 4 ≤ cur.length) : (del1 cur base i n).length = cur.length := by
  simp [del1]; omega
theorem del1_cells {cur : List Value} {base i n : Nat} (hi : i < n) (h : base + n * 4 ≤ cur.length) : ((del1 cur base i n).drop base).take ((n - 1) * 4) = ((cur.drop base).take (n * 4)).take (i * 4) ++ ((cur.drop base).take (n * 4)).drop ((i + 1) * 4) := by
  apply List.ext_getElem?
  intro p
  rw [List.getElem?_take, List.getElem?_drop]
  unfold del1
  by_cases h0 : p < (n - 1) * 4
  · rw [if_pos h0]
    by_cases h1 : p < i * 4
    · rw [List.append_assoc, List.getElem?_append_left (by simp; omega), List.getElem?_take, if_pos (by omega), List.getElem?_append_left (by simp; omega), List.getElem?_take, if_pos h1, List.getElem?_take, if_pos (by omega), List.getElem?_drop]
    · rw [List.append_assoc, List.getElem?_append_right (by simp; omega), List.getElem?_append_left (by simp; omega), List.getElem?_take, if_pos (by simp; omega), List.getElem?_drop, List.getElem?_append_right (by simp; omega), List.getElem?_drop, List.getElem?_take, if_pos (by simp; omega), List.getElem?_drop]
      congr 1
      simp
      omega
  · rw [if_neg h0, List.getElem?_eq_none]
    simp
    omega
def ndZ4 : List Value := [.string ⟨#[]⟩, .slice none 0 0, .string ⟨#[]⟩, .slice none 0 0]
theorem zero1 : (Builtin.zeroCells ndZero.cells 1).toList = ndZ4 := by kernel_rfl
theorem zero1_size : (Builtin.zeroCells ndZero.cells 1).size = 4 := by kernel_rfl
def del2 (cur : List Value) (base i n : Nat) : List Value := (del1 cur base i n).take (base + (n - 1) * 4) ++ ndZ4 ++ (del1 cur base i n).drop (base + (n - 1) * 4 + 4)
theorem del2_len {cur : List Value} {base i n : Nat} (hi : i < n) (h : base + n * 4 ≤ cur.length) : (del2 cur base i n).length = cur.length := by
  have := del1_len hi h
  simp [del2, ndZ4]; omega
theorem del2_cells {cur : List Value} {base i n : Nat} (hi : i < n) (h : base + n * 4 ≤ cur.length) : ((del2 cur base i n).drop base).take ((n - 1) * 4) = ((cur.drop base).take (n * 4)).take (i * 4) ++ ((cur.drop base).take (n * 4)).drop ((i + 1) * 4) := by
  rw [← del1_cells hi h]
  have := del1_len hi h
  apply List.ext_getElem?
  intro p
  rw [List.getElem?_take, List.getElem?_take, List.getElem?_drop, List.getElem?_drop]
  by_cases h0 : p < (n - 1) * 4
  · rw [if_pos h0, if_pos h0]
    unfold del2
    rw [List.append_assoc, List.getElem?_append_left (by simp; omega), List.getElem?_take, if_pos (by omega)]
  · rw [if_neg h0, if_neg h0]
set_option maxHeartbeats 4000000 in
set_option maxRecDepth 100000 in
theorem del_run (b base n c i : Nat) (cur : Array Value) (tB : TypeId) (w : World) (hi : i < n) (hnc : n ≤ c) (hc : c ≤ 9223372036854775807) (hb : w.heap[b]? = some (.cells cur tB (0, 0))) (hfit : base + c * 4 ≤ cur.size) (hcur : ∀ v ∈ (cur.toList.drop base).take (n * 4), v.oneCell' = true) :
    Calls Try.prog 40 #[.slice (some ⟨b, base, none⟩) n c, .int .i64 i, .int .i64 ((i : Int) + 1)] w fun e w' => e = .returned (.slice (some ⟨b, base, none⟩) (n - 1) c) ∧ w' = w.drew.setRow b (del2 cur.toList base i n).toArray := by
  obtain ⟨i0, hi0, hz, hs, hby⟩ := node_info
  have hnl : ((cur.toList.drop (base + (i + 1) * 4)).take ((n - (i + 1)) * 4)).length = (n - (i + 1)) * 4 := by simp; omega
  have hap : ∀ ty (a : Addr) sc, (∀ j v, ((cur.toList.drop (base + (i + 1) * 4)).take ((n - (i + 1)) * 4))[j]? = some v → w.drew.cell? (a.add j) = some v) → (Builtin.append_ #[22, 22] ty #[.slice (some ⟨b, base, none⟩) i c, .slice (some a) (n - (i + 1)) sc]).run Try.prog w.drew = .ok (.slice (some ⟨b, base, none⟩) (n - 1) c) (w.drew.setRow b (del1 cur.toList base i n).toArray) := fun ty a sc ha => by
    have := run_append_room' (P := Try.prog) (t := 22) (t' := 22) (ty := ty) (z := 4) (sLen := i) (sCap := c) (o := base) (m := n - (i + 1)) (news := (cur.toList.drop (base + (i + 1) * 4)).take ((n - (i + 1)) * 4)) w.drew Try.underlying22 hi0 hs (by kernel_rfl) (CellsAt.of (z := 4) (w := w.drew) hb) (x := .slice (some a) (n - (i + 1)) sc) (fun w' => by simp [Builtin.lenOf]) (run_firstCells_some (P := Try.prog) w.drew 4 (n - (i + 1)) a (n - (i + 1)) sc _ hnl ha) (fun v hv => hcur v (mem_mid (by omega) hv)) (by omega) (by rw [hnl]; omega)
    rw [this, hnl, show i + (n - (i + 1)) = n - 1 by omega]
    rfl
  have hl1 : (del1 cur.toList base i n).length = cur.size := by rw [del1_len hi (by simp; omega)]; simp
  have hb1 : (w.drew.setRow b (del1 cur.toList base i n).toArray).heap[b]? = some (.cells (del1 cur.toList base i n).toArray tB (0, 0)) := setRow_heap w.drew b cur _ tB (0, 0) hb
  have hcl : ∀ ty cc, (Builtin.clear_ #[22] ty #[.slice (some ⟨b, base + (n - 1) * 4, none⟩) 1 cc]).run Try.prog (w.drew.setRow b (del1 cur.toList base i n).toArray) = .ok (.tuple #[]) (w.drew.setRow b (del2 cur.toList base i n).toArray) := fun ty cc => by
    have := run_clear_z (P := Try.prog) (t := 22) (ty := ty) (c := cc) _ Try.underlying22 hi0 hz (g := b) (o := base + (n - 1) * 4) (k := 1) (by decide) hb1 (by rw [zero1]; decide) (by rw [zero1_size]; simp only [List.size_toArray, hl1]; omega)
    rw [this, setRow_setRow, zero1, zero1_size]
    rfl
  obtain ⟨w1, hw1⟩ : ∃ w1, w1 = w.drew.setRow b (del1 cur.toList base i n).toArray := ⟨_, rfl⟩
  rw [← hw1] at hap hcl
  clear hw1 hb1
  obtain ⟨w2, hw2⟩ : ∃ w2, w2 = w.drew.setRow b (del2 cur.toList base i n).toArray := ⟨_, rfl⟩
  rw [← hw2] at hcl ⊢
  clear hw2
  have h0 : (0 : Int) ≤ (i : Int) + 1 := by omega
  have h1 : (i : Int) + 1 ≤ (n : Int) := by omega
  have h2 : ¬ ((i : Int) = (i : Int) + 1) := by omega
  have h3 : i ≤ c := by omega
  have h4 : ((i : Int) + 1).toNat = i + 1 := by omega
  have h5 : i + 1 ≤ n := by omega
  have h6 : ((n - 1 : Nat) : Int) = (n : Int) - 1 := by omega
  have h7 : ¬ (c = n - 1) := by omega
  have h8 : ¬ (c = i) := by omega
  have hdiff : n - (n - 1) = 1 := by omega
  by_cases hci : i + 1 = c
  · have hin : i + 1 = n := by omega
    obtain rfl : c = n := by omega
    subst hin
    have hap2 : ∀ ty, (Builtin.append_ #[22, 22] ty #[.slice (some ⟨b, base, none⟩) i (i + 1), .slice (some ⟨b, base, none⟩) 0 0]).run Try.prog w.drew = .ok (.slice (some ⟨b, base, none⟩) i (i + 1)) w1 := fun ty => by
      have := hap ty ⟨b, base, none⟩ 0 (fun j v hj => by
        have hjl := (List.getElem?_eq_some_iff.1 hj).1
        rw [hnl] at hjl
        omega)
      simpa using this
    simp only [Nat.add_sub_cancel] at hcl
    have h9 : (i : Int) ≤ (i : Int) + 1 := by omega
    have h10 : i ≤ i + 1 := by omega
    go_enter Try.func40, Try.ntmps40
    go_wp2
    go_region_law (refine step_app_eq (v := .slice (some ⟨b, base, none⟩) i (i + 1)) (u := .slice (some ⟨b, base, none⟩) 0 0) rfl (.tmp 22) (.tmp 25) 22 22 rfl (by simp [Act.eval, Act.put]) (by simp [Act.eval, Act.put]) (hap2 _) ?_)
    go_wp2_with (at_builtin; refine wpList_clear_eq rfl _ 22 rfl _ rfl _ _ (hcl _ _) ?_)
    go_ret
    exact ⟨rfl, rfl⟩
  · have hci' : ¬ (c = i + 1) := by omega
    have hap2 : ∀ ty sc, (Builtin.append_ #[22, 22] ty #[.slice (some ⟨b, base, none⟩) i c, .slice (some ⟨b, base + (i + 1) * 4, none⟩) (n - (i + 1)) sc]).run Try.prog w.drew = .ok (.slice (some ⟨b, base, none⟩) (n - 1) c) w1 := fun ty sc => hap ty ⟨b, base + (i + 1) * 4, none⟩ sc (fun j v hj => by
      have hjl := (List.getElem?_eq_some_iff.1 hj).1
      rw [hnl] at hjl
      rw [List.getElem?_take, if_pos hjl, List.getElem?_drop] at hj
      rw [Addr.add_lit, Lib.cell_of_heap (w := w.drew) hb]
      simpa using hj)
    go_enter Try.func40, Try.ntmps40
    go_wp2
    go_region_law (refine step_app_eq (v := .slice (some ⟨b, base, none⟩) i c) (u := .slice (some ⟨b, base + (i + 1) * 4, none⟩) (n - (i + 1)) (c - (i + 1))) rfl (.tmp 22) (.tmp 25) 22 22 rfl (by simp [Act.eval, Act.put]) (by simp [Act.eval, Act.put]) (hap2 _ _) ?_)
    go_wp2_with (at_builtin; refine wpList_clear_eq rfl _ 22 rfl _ rfl _ _ (hcl _ _) ?_)
    go_ret
    exact ⟨rfl, rfl⟩
end Go.Proofs.Ytkkcmobnhiiacaa
