/- strings.Builder's methods, walked: what each call does to the world. No conditions. -/
import Derived.Test.YtmjglpdfkkmcoaaDoorBlda
import Derived.Test.YtmjglpdfkkmcoaaDoorBldb
set_option linter.unusedSimpArgs false
set_option linter.unusedVariables false
set_option maxRecDepth 100000
namespace Go.Proofs.YtmjglpdfkkmcoaaDoor
open Go.RowKit

theorem u8_info : ∃ i, Tryd.prog.info? 5 = some i ∧ i.zero = some (.int .u8 0) ∧ i.size = 1 ∧ i.bytes = 1 := by
  have h : (Tryd.prog.info? 5).map (fun i => (i.zero, i.size, i.bytes)) = some (some (.int .u8 0), 1, 1) := by kernel_rfl
  obtain ⟨i, hi, e⟩ := Option.map_eq_some_iff.1 h
  simp only [Prod.mk.injEq] at e
  exact ⟨i, hi, e.1, e.2.1, e.2.2⟩
/-- Nothing but block b has turned. -/
structure CFrame (w w' : World) (b : Nat) : Prop where
  os : w'.os = w.os
  tape : w'.tape = w.tape
  output : w'.output = w.output
  size : w'.heap.size = w.heap.size
  block : ∀ k, k ≠ b → w'.heap[k]? = w.heap[k]?
  shape : ∀ b s, w.shape? b = some s → w'.shape? b = some s
theorem setCell_frame {w : World} {b : Nat} {c0 c1 : Value} {T : TypeId} (hb : w.heap[b]? = some (.cells #[c0, c1] T (0, 0))) (o : Nat) (v : Value) :
    CFrame w (w.setCell ⟨b, o, none⟩ v) b ∧ (w.setCell ⟨b, o, none⟩ v).heap[b]? = some (.cells (#[c0, c1].setIfInBounds o v) T (0, 0)) := by
  have h1 : (w.setCell ⟨b, o, none⟩ v).heap[b]? = some (.cells (#[c0, c1].setIfInBounds o v) T (0, 0)) := by
    simp [World.setCell, Array.getElem?_modify, hb]
  have h2 : ∀ k, k ≠ b → (w.setCell ⟨b, o, none⟩ v).heap[k]? = w.heap[k]? := fun k hk => Below.heap_setCell _ _ _ _ (fun e => hk (by simp [e]))
  refine ⟨⟨rfl, rfl, rfl, by simp [World.setCell], h2, fun k s hs => ?_⟩, h1⟩
  by_cases hk : k = b
  · subst hk
    simp only [World.shape?, hb, Option.some.injEq] at hs
    subst hs
    simp [World.shape?, h1]
  · simpa [World.shape?, h2 k hk] using hs
theorem CFrame.refl (w : World) (b : Nat) : CFrame w w b := ⟨rfl, rfl, rfl, rfl, fun _ _ => rfl, fun _ _ h => h⟩
theorem cc_run (b : Nat) (p v : Value) (w : World) (hb : w.heap[b]? = some (.cells #[p, v] 113 (0, 0))) (hp : p = .pointer none ∨ p = .pointer (some ⟨b, 0, none⟩)) :
    Calls Tryd.prog 55 #[.pointer (some ⟨b, 0, none⟩)] w fun e w' => e = .returned (.tuple #[]) ∧ w'.heap[b]? = some (.cells #[.pointer (some ⟨b, 0, none⟩), v] 113 (0, 0)) ∧ CFrame w w' b := by
  rcases hp with rfl | rfl
  · refine (cc_fresh b w (by rw [Lib.cell_of_heap hb]; rfl) (by simp [World.shape?, hb]) (Lib.frozen_of_heap hb 0)).mono ?_
    rintro e w' ⟨rfl, rfl⟩
    have h := setCell_frame hb 0 (.pointer (some ⟨b, 0, none⟩))
    exact ⟨rfl, h.2, h.1⟩
  · refine (cc_used b w (by rw [Lib.cell_of_heap hb]; rfl)).mono ?_
    rintro e w' ⟨rfl, rfl⟩
    exact ⟨rfl, hb, CFrame.refl _ _⟩
/-- What a writing call has turned. -/
structure WFrame (w w' : World) (b : Nat) (v v' : Value) : Prop where
  os : w'.os = w.os
  tape : w'.tape = w.tape
  output : w'.output = w.output
  size : w.heap.size ≤ w'.heap.size
  block : ∀ k, k < w.heap.size → k ≠ b → v.ownBlock ≠ some k → w'.heap[k]? = w.heap[k]?
  shape : ∀ b s, w.shape? b = some s → w'.shape? b = some s
  own : ∀ g, v'.ownBlock = some g → v.ownBlock = some g ∨ (w.heap.size ≤ g ∧ g < w'.heap.size)
theorem WFrame.mk3 {w w1 w2 w3 : World} {b : Nat} {v v' : Value} (h1 : CFrame w w1 b) (h2 : BFrame w1 w2 v v') (h3 : CFrame w2 w3 b) : WFrame w w3 b v v' :=
  ⟨h3.os.trans (h2.os.trans h1.os), h3.tape.trans (h2.tape.trans h1.tape), h3.output.trans (h2.output.trans h1.output), by rw [h3.size, ← h1.size]; exact h2.size,
    fun k hk hkb hv => (h3.block k hkb).trans ((h2.block k (by rw [h1.size]; exact hk) hv).trans (h1.block k hkb)), fun b s hs => h3.shape b s (h2.shape b s (h1.shape b s hs)),
    fun g hg => (h2.own g hg).imp id (fun h => by rw [h3.size, ← h1.size]; exact h)⟩
theorem BFrame.alloc {w w' : World} {v v' : Value} (o : Obj) (h : BFrame (w.alloc o) w' v v') : BFrame w w' v v' :=
  ⟨h.os, h.tape, h.output, Nat.le_trans (by simp) h.size, fun k hk hv => (h.block k (by simp; omega) hv).trans (heap_alloc_was w o k hk),
    fun b s hs => h.shape b s ((later_alloc (fun _ => False) w o (fun b hb => hb.elim)).shape b s hs), fun g hg => (h.own g hg).imp id (fun h => ⟨by have := h.1; simp at this; omega, h.2⟩)⟩
theorem BufIs.alloc {U : TypeId} {w : World} {v : Value} {s : List UInt8} (h : BufIs U w v s) (o : Obj) : BufIs U (w.alloc o) v s := by
  rcases h with h | ⟨g, cap, cur, h1, h2, h3, h4⟩
  · exact .inl h
  · exact .inr ⟨g, cap, cur, h1, h2, by rw [heap_alloc_was w o g (by rcases Nat.lt_or_ge g w.heap.size with h | h; exact h; simp [Array.getElem?_eq_none h] at h3)]; exact h3, h4⟩
theorem BufIs.other {U : TypeId} {w w' : World} {v : Value} {s : List UInt8} (h : BufIs U w v s) (hb : ∀ g, v.ownBlock = some g → w'.heap[g]? = w.heap[g]?) : BufIs U w' v s := by
  rcases h with h | ⟨g, cap, cur, rfl, h2, h3, h4⟩
  · exact .inl h
  · exact .inr ⟨g, cap, cur, rfl, h2, by rw [hb g rfl]; exact h3, h4⟩
theorem buf_block {U T : TypeId} {w : World} {v : Value} {s : List UInt8} {b : Nat} {cs : Array Value} {fr : Nat × Nat} (h : BufIs U w v s) (hb : w.heap[b]? = some (.cells cs T fr)) (hne : T ≠ U) : v.ownBlock ≠ some b := by
  rcases h with ⟨rfl, _⟩ | ⟨g, cap, cur, rfl, _, h3, _⟩
  · simp [Value.ownBlock]
  · intro e
    simp only [Value.ownBlock, Option.some.injEq] at e
    subst e
    rw [hb] at h3
    simp only [Option.some.injEq, Obj.cells.injEq] at h3
    exact hne h3.2.1
theorem block_lt {w : World} {b : Nat} {o : Obj} (h : w.heap[b]? = some o) : b < w.heap.size := by
  rcases Nat.lt_or_ge b w.heap.size with h' | h'
  · exact h'
  · simp [Array.getElem?_eq_none h'] at h
set_option maxHeartbeats 2000000 in
set_option maxRecDepth 100000 in
theorem ws_run (b : Nat) (p v : Value) (s : List UInt8) (t : ByteArray) (w : World) (hb : w.heap[b]? = some (.cells #[p, v] 113 (0, 0))) (hp : p = .pointer none ∨ p = .pointer (some ⟨b, 0, none⟩)) (hv : BufIs 5 w v s) (hlen : s.length + t.size ≤ 140737488355328) :
    Calls Tryd.prog 50 #[.pointer (some ⟨b, 0, none⟩), .string t] w fun e w' => e = .returned (.tuple #[.int .i64 t.size, .nilIface]) ∧ ∃ v', w'.heap[b]? = some (.cells #[.pointer (some ⟨b, 0, none⟩), v'] 113 (0, 0)) ∧ BufIs 5 w' v' (s ++ t.data.toList) ∧ WFrame w w' b v v' := by
  obtain ⟨i0, hi, hz0, hz1, hz2⟩ := u8_info
  have hvb := buf_block hv hb (by decide)
  go_enter Tryd.func50, Tryd.ntmps50
  go_wp2_with (go_at_call 55; refine (cc_run b p v w hb hp).mono ?_)
  rintro e w1 ⟨rfl, hb1, hf1⟩
  have hv1 : BufIs 5 w1 v s := hv.other fun g hg => hf1.block g (fun e => hvb (e ▸ hg))
  have c0 : w1.cell? ⟨b, 0, none⟩ = some (.pointer (some ⟨b, 0, none⟩)) := by rw [Lib.cell_of_heap hb1]; rfl
  have c1 : w1.cell? ⟨b, 1, none⟩ = some v := by rw [Lib.cell_of_heap hb1]; rfl
  have hS := src_str (P := Tryd.prog) (w := w1) (I := fun _ => False) (bl := fun _ => none) t
  have hL : ∀ w', (Builtin.lenOf (.string t)).run Tryd.prog w' = .ok (t.data.toList.length : Nat) w' := fun w' => by have := hS.len w'; rw [List.length_map] at this; exact this
  have hF : ∀ w', w'.heap = w1.heap → (Builtin.firstCells 1 t.data.toList.length (.string t)).run Tryd.prog w' = .ok (t.data.toList.map byv).toArray w' := fun w' hw => by
    have := hS.first w' hw
    rw [List.length_map] at this
    exact this
  have hB : s.length + t.data.toList.length ≤ 140737488355328 := by simpa using hlen
  go_wp2_with (at_builtin; refine wpList_buf _ rfl _ _ _ _ rfl Tryd.underlying111 hi hz1 hz0 rfl hz2 (by kernel_rfl) _ s t.data.toList rfl hv1 hL hF hB ?_)
  intro v2 w2 h2 hf2
  have hb2 : w2.heap[b]? = some (.cells #[.pointer (some ⟨b, 0, none⟩), v] 113 (0, 0)) := (hf2.block b (block_lt hb1) hvb).trans hb1
  have d0 : w2.cell? ⟨b, 0, none⟩ = some (.pointer (some ⟨b, 0, none⟩)) := by rw [Lib.cell_of_heap hb2]; rfl
  have d1 : w2.cell? ⟨b, 1, none⟩ = some v := by rw [Lib.cell_of_heap hb2]; rfl
  have f1 : w2.frozen? ⟨b, 1, none⟩ = false := Lib.frozen_of_heap hb2 1
  have hs := setCell_frame hb2 1 v2
  have h2b := buf_block h2 hb2 (by decide)
  have h3 := h2.other (w' := w2.setCell ⟨b, 1, none⟩ v2) fun g hg => hs.1.block g (fun e => h2b (e ▸ hg))
  obtain ⟨a2, m2, n2, rfl⟩ : ∃ a m n, v2 = .slice a m n := by obtain ⟨a, n, e⟩ := buf_cells h2; exact ⟨_, _, _, e⟩
  go_wp2
  go_ret2
  exact ⟨rfl, _, hs.2, h3, WFrame.mk3 hf1 hf2 hs.1⟩
set_option maxHeartbeats 2000000 in
set_option maxRecDepth 100000 in
theorem str_run (b : Nat) (p v : Value) (s : List UInt8) (w : World) (hb : w.heap[b]? = some (.cells #[p, v] 113 (0, 0))) (hv : BufIs 5 w v s) :
    Calls Tryd.prog 52 #[.pointer (some ⟨b, 0, none⟩)] w fun e w' => e = .returned (.string ⟨s.toArray⟩) ∧ WFrame w w' b v (.slice none 0 0) ∧ w'.heap[b]? = w.heap[b]? := by
  have hvb := buf_block hv hb (by decide)
  rcases hv with ⟨rfl, rfl⟩ | ⟨g, cap, cur, rfl, hne, hg, hlc, hcm, hcs, hcell⟩
  · have hUS : ∀ W q, (Builtin.unsafeString_ #[126, 3] 9 #[.pointer q, .int .i64 0]).run Tryd.prog W = .ok (.string .empty) W := fun W q => Lib.run_unsafeString_none W _ _ _ q
    have c1 : w.drew.cell? ⟨b, 1, none⟩ = some (.slice none 0 0) := by
      have : w.drew.heap[b]? = some (.cells #[p, .slice none 0 0] 113 (0, 0)) := hb
      rw [Lib.cell_of_heap this]; rfl
    have hSD : (Builtin.unsafeSliceData_ #[111] 126 #[.slice none 0 0]).run Tryd.prog w.drew = .ok (.pointer none) w.drew := rfl
    go_enter Tryd.func52, Tryd.ntmps52
    go_wp2
    go_region
    all_goals (go_wp2; go_ret; exact ⟨rfl, ⟨rfl, rfl, rfl, Nat.le_refl _, fun _ _ _ _ => rfl, fun _ _ h => h, fun g hg => by simp [Value.ownBlock] at hg⟩, rfl⟩)
  · have hl0 : s.length ≠ 0 := by simpa using hne
    have c1 : w.drew.cell? ⟨b, 1, none⟩ = some (.slice (some ⟨g, 0, none⟩) s.length cap) := by
      have : w.drew.heap[b]? = some (.cells #[p, .slice (some ⟨g, 0, none⟩) s.length cap] 113 (0, 0)) := hb
      rw [Lib.cell_of_heap this]; rfl
    have hSD : (Builtin.unsafeSliceData_ #[111] 126 #[.slice (some ⟨g, 0, none⟩) s.length cap]).run Tryd.prog w.drew = .ok (.pointer (some ⟨g, 0, none⟩)) w.drew :=
      Lib.run_unsafeSliceData_row _ _ _ _ _ _ (by omega)
    have hgd : w.drew.heap[g]? = some (.cells cur 5 (0, 0)) := hg
    have hUS : (Builtin.unsafeString_ #[126, 3] 9 #[.pointer (some ⟨g, 0, none⟩), .int .i64 s.length]).run Tryd.prog w.drew = .ok (.string ⟨s.toArray⟩) (w.drew.freeze ⟨g, 0, none⟩ s.length) := by
      refine Lib.run_unsafeString_row w.drew 126 3 9 5 Tryd.underlying126 (by kernel_rfl) g cur.size (by simp [World.shape?, hgd]) s hne (by omega) (by unfold maxLen at hcm; omega) ?_
      intro j x hx
      rw [Addr.add_lit, Lib.cell_of_heap hgd, Nat.zero_add]
      exact hcell j x hx
    go_enter Tryd.func52, Tryd.ntmps52
    go_wp2
    go_region
    all_goals go_wp2
    all_goals go_ret
    have hfr : ∀ k, k ≠ g → (w.drew.freeze ⟨g, 0, none⟩ s.length).heap[k]? = w.heap[k]? := by
      intro k hk
      unfold World.freeze
      rw [if_neg hl0]
      simp only [Array.getElem?_modify]
      rw [if_neg (fun e => hk e.symm)]
      rfl
    have hgb : g ≠ b := by simpa [Value.ownBlock] using hvb
    have hsh : ∀ b s', w.shape? b = some s' → (w.drew.freeze ⟨g, 0, none⟩ s.length).shape? b = some s' := by
      intro k s' hs
      by_cases hk : k = g
      · subst hk
        simp only [World.shape?, hg] at hs
        unfold World.freeze
        rw [if_neg hl0]
        simp only [World.shape?, Array.getElem?_modify, hgd]
        exact hs
      · simpa [World.shape?, hfr k hk] using hs
    have hsz : (w.drew.freeze ⟨g, 0, none⟩ s.length).heap.size = w.heap.size := by
      unfold World.freeze
      rw [if_neg hl0]
      simp
    have hrest : (w.drew.freeze ⟨g, 0, none⟩ s.length).os = w.os ∧ (w.drew.freeze ⟨g, 0, none⟩ s.length).tape = w.tape ∧ (w.drew.freeze ⟨g, 0, none⟩ s.length).output = w.output := by
      unfold World.freeze
      rw [if_neg hl0]
      exact ⟨rfl, rfl, rfl⟩
    all_goals exact ⟨rfl, ⟨hrest.1, hrest.2.1, hrest.2.2, by rw [hsz]; exact Nat.le_refl _, fun k hk hkb hv => hfr k (fun e => hv (by simp [Value.ownBlock, e])), hsh, fun g hg => by simp [Value.ownBlock] at hg⟩, hfr b (fun e => hgb e.symm)⟩
end Go.Proofs.YtmjglpdfkkmcoaaDoor
