/- url.Strip, walked. No conditions. -/
import Derived.Test.YtjlkahkehnakfaaDoorRepd
set_option linter.unusedSimpArgs false
set_option linter.unusedVariables false
set_option maxRecDepth 100000
namespace Go.Proofs.YtjlkahkehnakfaaDoor
open Go.RowKit Go.Shelf

theorem wpList_append_eq {P : Program} {w : World} {ops : Array Oper} {rest : List Oper} {o : Oper} {a : Act} {Q : Exit → Act → World → Prop} (hgd : o.guard = none) (d s : Operand) (dT sT : TypeId)
    (ho : o.op = .call { callee := .builtin .append, args := #[d, s], argTypes := #[dT, sT] }) (v : Value) (w' : World) (hrun : (Builtin.append_ #[dT, sT] o.type #[a.eval d, a.eval s]).run P w = .ok v w')
    (h : wpList P ops Q rest (a.put o.dst v) w') : wpList P ops Q (o :: rest) a w := by
  refine wpList_plain hgd fun K hK => ?_
  unfold Oper.wp
  simp [execOp, ho, resolve, invoke, builtin, hrun, Result.andThen]
  exact hK _ _ h
set_option maxHeartbeats 4000000 in
set_option maxRecDepth 100000 in
theorem rep_run (R G cap : Nat) (c3 : Value) (s : ByteArray) (w : World) (hr : RepAt w R 0 0 c3 (.slice (some ⟨G, 0, none⟩) 6 cap)) (hO : Olds w G) (hGR : ¬ G = R) (hs : s.size ≤ 140737488355328) (n : Nat) (hn : n ≤ R) :
    Calls Tryd.prog 11 #[.pointer (some ⟨R, 0, none⟩), .string s] w fun e w' => e = .returned (.string ⟨(s.data.toList.filter dropC).toArray⟩) ∧ Below n w w' := by
  have hR := rep_lt hr
  have hmf : ∀ (fn : Fn) (first cap : Array Value) (w : World), (Instr.makeFunc fn first cap).run Tryd.prog w = .ok (.func fn first cap) w := fun _ _ _ _ => rfl
  go_enter Tryd.func11, Tryd.ntmps11
  go_wp2_with (go_at_call 24; refine (do_run R G cap c3 w hr hO hGR n hn).mono ?_)
  rintro e w1 ⟨rfl, hr1, hT, hB⟩
  have k3 : w1.cell? ⟨R, 3, none⟩ = some (.iface 78 (.pointer (some ⟨w.heap.size + 1, 0, none⟩))) := by rw [Lib.cell_of_heap hr1]; rfl
  go_wp2_with (go_at_call 103; refine (bsr_run (w.heap.size + 1) w.heap.size s w1 hT hs).mono ?_)
  rintro e w2 ⟨rfl, hB2⟩
  go_wp2
  go_ret
  exact ⟨rfl, hB.trans (hB2.mono (by have := hB.size; omega))⟩
/-- A row of the three signs. -/
def six : Array Value := #[vstr [9], vstr [], vstr [10], vstr [], vstr [13], vstr []]
theorem append6 (g : Nat) (w : World) (hg : w.heap[g]? = some (.cells six 9 (0, 0))) : ∃ cap Z, (Builtin.append_ #[38, 38] 38 #[.slice none 0 0, .slice (some ⟨g, 0, none⟩) 6 6]).run Tryd.prog w = .ok (.slice (some ⟨w.heap.size, 0, none⟩) 6 cap) (w.drew.alloc (.cells (six ++ Z) 9)) := by
  have h : (Tryd.prog.info? 9).map (fun i => (i.zero, i.size, i.bytes)) = some (some (vstr []), 1, 16) := by kernel_rfl
  obtain ⟨i, hi, e⟩ := Option.map_eq_some_iff.1 h
  simp only [Prod.mk.injEq] at e
  have hf : (Builtin.firstCells 1 6 (.slice (some ⟨g, 0, none⟩) 6 6)).run Tryd.prog w.drew = .ok six.toList.toArray w.drew := by
    refine run_firstCells_some (P := Tryd.prog) w.drew 1 6 ⟨g, 0, none⟩ 6 6 six.toList rfl (fun j v hj => ?_)
    rw [Addr.add_lit, Lib.cell_of_heap (w := w.drew) hg, Nat.zero_add]
    simpa using hj
  have := run_append_grow' (P := Tryd.prog) (t := 38) (t' := 38) (ty := 38) (z := 1) (s := none) (sLen := 0) (sCap := 0) (olds := []) w Tryd.underlying38 hi e.2.1 e.1 (by kernel_rfl) (by simp [Builtin.firstCells]) (x := .slice (some ⟨g, 0, none⟩) 6 6) (m := 6) (news := six.toList) (fun w' => by simp [Builtin.lenOf]) hf (by omega) (by decide) (by rw [e.2.2]; decide)
  exact ⟨_, _, by simpa using this⟩
set_option maxHeartbeats 4000000 in
set_option maxRecDepth 100000 in
theorem new_run (g : Nat) (w : World) (hg : w.heap[g]? = some (.cells six 9 (0, 0))) :
    Calls Tryd.prog 10 #[.slice (some ⟨g, 0, none⟩) 6 6] w fun e w' => ∃ cap, e = .returned (.pointer (some ⟨w.heap.size + 1, 0, none⟩)) ∧
      RepAt w' (w.heap.size + 1) 0 0 .nilIface (.slice (some ⟨w.heap.size, 0, none⟩) 6 cap) ∧ Olds w' w.heap.size ∧ Below w.heap.size w w' := by
  obtain ⟨cap, Z, hap⟩ := append6 g w hg
  go_enter Tryd.func10, Tryd.ntmps10
  go_wp2_with (at_builtin; refine wpList_append_eq rfl _ _ _ _ rfl _ _ hap ?_)
  go_wp2
  go_ret
  have hs1 : (w.alloc (.cells (six ++ Z) 9)).heap.size = w.heap.size + 1 := by simp
  have e0 : ∀ o, ((w.alloc (.cells (six ++ Z) 9)).alloc o).drew.heap[w.heap.size]? = some (.cells (six ++ Z) 9 (0, 0)) := fun o =>
    (Below.heap_alloc (w.alloc (.cells (six ++ Z) 9)) o w.heap.size (by omega)).trans (heap_alloc_last w _)
  have e1 : ∀ o, ((w.alloc (.cells (six ++ Z) 9)).alloc o).drew.heap[w.heap.size + 1]? = some o := fun o => by
    rw [← hs1]
    exact heap_alloc_last _ _
  refine ⟨cap, rfl, e1 _, ?_, Below.drew (Below.alloc (Below.alloc (Below.refl _ _) (Nat.le_refl _) _) (by omega) _)⟩
  have ec : ∀ o j v, j < 6 → six[j]? = some v → ((w.alloc (.cells (six ++ Z) 9)).alloc o).drew.cell? ⟨w.heap.size, j, none⟩ = some v := fun o j v hj h => by
    rw [Lib.cell_of_heap (e0 o)]
    exact (Array.getElem?_append_left (show j < six.size from hj)).trans h
  exact ⟨by simp [World.drew]; omega, ec _ 0 _ (by decide) rfl, ec _ 1 _ (by decide) rfl, ec _ 2 _ (by decide) rfl, ec _ 3 _ (by decide) rfl, ec _ 4 _ (by decide) rfl, ec _ 5 _ (by decide) rfl⟩
set_option maxHeartbeats 4000000 in
set_option maxRecDepth 100000 in
theorem strip_run (s : List UInt8) (w : World) (hs : s.length ≤ 140737488355328) :
    Calls Tryd.prog 5 #[.string ⟨s.toArray⟩] w fun e w' => e = .returned (.string ⟨(urlS s).toArray⟩) ∧ Below w.heap.size w w' := by
  have ht := trimS_len s ctl
  have hT := Any.strings_Trim_laid laysTrim (by kernel_rfl) ⟨s.toArray⟩ ⟨#[0, 1, 2, 3, 4, 5, 6, 7, 8, 9, 10, 11, 12, 13, 14, 15, 16, 17, 18, 19, 20, 21, 22, 23, 24, 25, 26, 27, 28, 29, 30, 31, 32]⟩ w (by simp only [ByteArray.size, List.size_toArray]; omega) (by decide) (ascii_of_all (by decide))
  go_enter Tryd.func5, Tryd.ntmps5
  go_wp2_with (go_at_call 9; refine hT.mono ?_)
  rintro e w1 rfl hB1
  rw [show Lib.trimS s [0, 1, 2, 3, 4, 5, 6, 7, 8, 9, 10, 11, 12, 13, 14, 15, 16, 17, 18, 19, 20, 21, 22, 23, 24, 25, 26, 27, 28, 29, 30, 31, 32] = trR lowC (s.dropWhile lowC) from trim_ctl s]
  have hl : (trR lowC (s.dropWhile lowC)).length ≤ 140737488355328 := by rw [← trim_ctl]; omega
  have hu : (trR lowC (s.dropWhile lowC)).filter dropC = urlS s := rfl
  go_wp2_with (go_at_call 10; refine (new_run w1.heap.size (w1.alloc (.cells six 9)) (heap_alloc_last w1 _)).mono ?_)
  rintro e w2 ⟨cap, rfl, hr, hO, hB2⟩
  have hs1 : (w1.alloc (.cells six 9)).heap.size = w1.heap.size + 1 := by simp
  rw [hs1] at hr hO hB2 ⊢
  go_wp2_with (go_at_call 11; refine (rep_run _ _ cap _ _ w2 hr hO (by omega) (by simpa [ByteArray.size] using hl) w.heap.size (by have := hB1.size; omega)).mono ?_)
  rintro e w3 rfl hB3
  go_wp2
  go_ret
  refine ⟨rfl, hB1.trans (((Below.refl _ _).alloc hB1.size _).trans ((hB2.mono (by have := hB1.size; omega)).trans hB3))⟩
/-- url.Strip. -/
theorem url_walk (s : List UInt8) (hs : s.length ≤ 140737488355328) : Fn1 Tryd.prog 5 [.str s] (fun r => r = .str (urlS s)) := by
  intro w I vs hl hv hI
  obtain ⟨v0, rfl⟩ : ∃ v0, vs = [v0] := by
    match vs, hl with
    | [a], _ => exact ⟨a, rfl⟩
  obtain ⟨rfl, _⟩ := pr_str_inv (hv 0 v0 _ rfl rfl)
  have h1 : (urlS s).length ≤ s.length := by
    refine Nat.le_trans (List.length_filter_le _ _) ?_
    rw [← trim_ctl]
    exact trimS_len s ctl
  exact fn1_str hI (by omega) (strip_run s w hs)
end Go.Proofs.YtjlkahkehnakfaaDoor
