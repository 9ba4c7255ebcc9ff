/- strings.Replacer: the table is built once, walked. No conditions. -/
import Derived.Test.YtjlkahkehnakfaaDoorRepb
set_option linter.unusedSimpArgs false
set_option linter.unusedVariables false
set_option maxRecDepth 100000
namespace Go.Proofs.YtjlkahkehnakfaaDoor
open Go.RowKit

theorem tab_keep {k B Gr : Nat} {w w' : World} (hT : TabK k w B Gr) (h1 : w'.heap[B]? = w.heap[B]?) (h2 : w'.heap[Gr]? = w.heap[Gr]?) : TabK k w' B Gr := by
  obtain ⟨T, a, b, c, d, cur, e, f, g⟩ := hT
  exact ⟨T, a, h1.trans b, c, d, cur, e, h2.trans f, g⟩
theorem tab_lt {k B Gr : Nat} {w : World} (hT : TabK k w B Gr) : B < w.heap.size ∧ Gr < w.heap.size := by
  obtain ⟨T, a, b, c, d, cur, e, f, g⟩ := hT
  exact ⟨block_lt' b, block_lt' f⟩
/-- A Replacer in block R: done, the lock, what was built, what it is built of. -/
def RepAt (w : World) (R : Nat) (d l : Int) (c3 c4 : Value) : Prop := w.heap[R]? = some (.cells #[.int .u32 d, .int .i32 l, .int .u32 0, c3, c4] 54 (0, 0))
/-- The three signs and what stands for each. -/
structure Olds (w : World) (G : Nat) : Prop where
  lt : G < w.heap.size
  h0 : w.cell? ⟨G, 0, none⟩ = some (vstr [9])
  h1 : w.cell? ⟨G, 1, none⟩ = some (vstr [])
  h2 : w.cell? ⟨G, 2, none⟩ = some (vstr [10])
  h3 : w.cell? ⟨G, 3, none⟩ = some (vstr [])
  h4 : w.cell? ⟨G, 4, none⟩ = some (vstr [13])
  h5 : w.cell? ⟨G, 5, none⟩ = some (vstr [])
theorem Olds.keep {w w' : World} {G : Nat} (h : Olds w G) (hs : w.heap.size ≤ w'.heap.size) (hk : w'.heap[G]? = w.heap[G]?) : Olds w' G := by
  have e : ∀ j, w'.cell? ⟨G, j, none⟩ = w.cell? ⟨G, j, none⟩ := fun j => World.cell?_of_block (w := w) (w' := w') (a := ⟨G, j, none⟩) hk
  exact ⟨Nat.lt_of_lt_of_le h.lt hs, (e 0).trans h.h0, (e 1).trans h.h1, (e 2).trans h.h2, (e 3).trans h.h3, (e 4).trans h.h4, (e 5).trans h.h5⟩
theorem rep_lt {w : World} {R : Nat} {d l : Int} {c3 c4 : Value} (h : RepAt w R d l c3 c4) : R < w.heap.size := block_lt' h
set_option maxHeartbeats 4000000 in
set_option maxRecDepth 100000 in
theorem once_run (R G cap : Nat) (d l : Int) (c3 : Value) (w : World) (hr : RepAt w R d l c3 (.slice (some ⟨G, 0, none⟩) 6 cap)) (hO : Olds w G) (n : Nat) (hn : n ≤ R) :
    Calls Tryd.prog 25 #[.pointer (some ⟨R, 0, none⟩)] w fun e w' => e = .returned (.tuple #[]) ∧
      RepAt w' R d l (.iface 78 (.pointer (some ⟨w.heap.size + 1, 0, none⟩))) (.slice none 0 0) ∧ TabK 3 w' (w.heap.size + 1) w.heap.size ∧ Below n w w' := by
  have hR := rep_lt hr
  go_enter Tryd.func25, Tryd.ntmps25
  go_wp2_with (go_at_call 32; refine (build_run R G cap _ _ _ _ (0, 0) #[] w hr hO.lt hO.h0 hO.h1 hO.h2 hO.h3 hO.h4 hO.h5).mono ?_)
  rintro e w1 ⟨rfl, hT, hB⟩
  have hr1 : RepAt w1 R d l c3 (.slice (some ⟨G, 0, none⟩) 6 cap) := (hB.block R hR).trans hr
  have k3 : w1.cell? ⟨R, 3, none⟩ = some c3 := by rw [Lib.cell_of_heap hr1]; rfl
  have k4 : w1.cell? ⟨R, 4, none⟩ = some (.slice (some ⟨G, 0, none⟩) 6 cap) := by rw [Lib.cell_of_heap hr1]; rfl
  have f3 : w1.frozen? ⟨R, 3, none⟩ = false := Lib.frozen_of_heap hr1 3
  have f4 : w1.frozen? ⟨R, 4, none⟩ = false := Lib.frozen_of_heap hr1 4
  go_wp2
  go_end0
  have e1 := setCell_at (setCell_at hr1 3 (.iface 78 (.pointer (some ⟨w.heap.size + 1, 0, none⟩)))) 4 (.slice none 0 0)
  refine ⟨rfl, e1, tab_keep hT ?_ ?_, ?_⟩
  · rw [Below.heap_setCell _ _ _ _ (by simp; omega), Below.heap_setCell _ _ _ _ (by simp; omega)]
  · rw [Below.heap_setCell _ _ _ _ (by simp; omega), Below.heap_setCell _ _ _ _ (by simp; omega)]
  · exact Below.setCell (Below.setCell (hB.mono (by omega)) hn _) hn _
set_option maxHeartbeats 4000000 in
set_option maxRecDepth 100000 in
theorem slow_run (R G cap : Nat) (c3 : Value) (w : World) (hr : RepAt w R 0 0 c3 (.slice (some ⟨G, 0, none⟩) 6 cap)) (hO : Olds w G) (hGR : ¬ G = R) (n : Nat) (hn : n ≤ R) :
    Calls Tryd.prog 31 #[.pointer (some ⟨R, 0, none⟩), .func (.func 25) #[.pointer (some ⟨R, 0, none⟩)] #[]] w fun e w' => e = .returned (.tuple #[]) ∧
      RepAt w' R 1 0 (.iface 78 (.pointer (some ⟨w.heap.size + 1, 0, none⟩))) (.slice none 0 0) ∧ TabK 3 w' (w.heap.size + 1) w.heap.size ∧ Below n w w' := by
  have hR := rep_lt hr
  have k1 : w.cell? ⟨R, 1, none⟩ = some (.int .i32 0) := by rw [Lib.cell_of_heap hr]; rfl
  have f1 : w.frozen? ⟨R, 1, none⟩ = false := Lib.frozen_of_heap hr 1
  have hr1 : RepAt (w.setCell ⟨R, 1, none⟩ (.int .i32 1)) R 0 1 c3 (.slice (some ⟨G, 0, none⟩) 6 cap) := setCell_at hr 1 _
  have hO1 : Olds (w.setCell ⟨R, 1, none⟩ (.int .i32 1)) G := hO.keep (by simp [World.setCell]) (Below.heap_setCell _ _ _ _ (by simpa using hGR))
  have k0 : (w.setCell ⟨R, 1, none⟩ (.int .i32 1)).cell? ⟨R, 0, none⟩ = some (.int .u32 0) := by rw [Lib.cell_of_heap hr1]; rfl
  have hl := run_call_load (P := Tryd.prog) Tryd.func36 (by kernel_rfl) (by kernel_rfl) (by kernel_rfl) .u32 (by kernel_rfl) (w := w.setCell ⟨R, 1, none⟩ (.int .i32 1)) (a := ⟨R, 0, none⟩) (x := 0) k0
  have hsz : (w.setCell ⟨R, 1, none⟩ (.int .i32 1)).heap.size = w.heap.size := by simp [World.setCell]
  have hnot : ∀ (x : Bool) (w : World), (Op.unary .not (.bool x)).run Tryd.prog w = .ok (.bool (!x)) w := fun _ _ => rfl
  have hon := once_run R G cap 0 1 c3 _ hr1 hO1 n hn
  rw [hsz] at hon
  have hb1 : Below n w (w.setCell ⟨R, 1, none⟩ (.int .i32 1)) := Below.setCell (Below.refl _ _) hn _
  go_enter_defers Tryd.func31, Tryd.ntmps31
  go_wp2_with (first | (go_at_call 37; refine (rp_lock ⟨R, 1, none⟩ _ (by go_simp) (by go_simp)).mono ?_; rintro e w' ⟨rfl, rfl⟩) | (go_at_call 25; refine hon.mono ?_) | (go_at_call 30; go_in))
  rintro e w2 ⟨rfl, hr2, hT2, hB2⟩
  go_wp2
  have k20 : w2.cell? ⟨R, 0, none⟩ = some (.int .u32 0) := by rw [Lib.cell_of_heap hr2]; rfl
  have f20 : w2.frozen? ⟨R, 0, none⟩ = false := Lib.frozen_of_heap hr2 0
  have hr3 : RepAt (w2.drew.setCell ⟨R, 0, none⟩ (.int .u32 1)) R 1 1 (.iface 78 (.pointer (some ⟨w.heap.size + 1, 0, none⟩))) (.slice none 0 0) := setCell_at (w := w2.drew) hr2 0 _
  have k31 : (w2.drew.setCell ⟨R, 0, none⟩ (.int .u32 1)).cell? ⟨R, 1, none⟩ = some (.int .i32 1) := by rw [Lib.cell_of_heap hr3]; rfl
  have f31 : (w2.drew.setCell ⟨R, 0, none⟩ (.int .u32 1)).frozen? ⟨R, 1, none⟩ = false := Lib.frozen_of_heap hr3 1
  refine leaves_cons (f := 39) (args := #[.pointer (some ⟨R, 0, none⟩), .bool true]) (by simp) (by simp [go_sem]) ?_
  refine (rp_store ⟨R, 0, none⟩ (.int .u32 0) .returning _ k20 f20).mono ?_
  rintro e u' w3 ⟨rfl, rfl, rfl⟩
  refine leaves_cons (f := 38) (args := #[.pointer (some ⟨R, 1, none⟩)]) (by simp [settle]) (by simp [go_sem]) ?_
  refine (rp_unlock ⟨R, 1, none⟩ _ _ k31 f31).mono ?_
  rintro e u' w4 ⟨rfl, rfl, rfl⟩
  have e1 : ∀ b, ¬ b = R → ((w2.drew.setCell ⟨R, 0, none⟩ (.int .u32 1)).setCell ⟨R, 1, none⟩ (.int .i32 0)).heap[b]? = w2.heap[b]? := fun b hb => by
    rw [Below.heap_setCell _ _ _ _ (by simpa using hb), Below.heap_setCell _ _ _ _ (by simpa using hb)]
    rfl
  have fin : RepAt ((w2.drew.setCell ⟨R, 0, none⟩ (.int .u32 1)).setCell ⟨R, 1, none⟩ (.int .i32 0)) R 1 0 (.iface 78 (.pointer (some ⟨w.heap.size + 1, 0, none⟩))) (.slice none 0 0) ∧
      TabK 3 ((w2.drew.setCell ⟨R, 0, none⟩ (.int .u32 1)).setCell ⟨R, 1, none⟩ (.int .i32 0)) (w.heap.size + 1) w.heap.size ∧ Below n w ((w2.drew.setCell ⟨R, 0, none⟩ (.int .u32 1)).setCell ⟨R, 1, none⟩ (.int .i32 0)) :=
    ⟨setCell_at hr3 1 _, tab_keep hT2 (e1 _ (by omega)) (e1 _ (by omega)), Below.setCell (Below.setCell (hb1.trans hB2).drew hn _) hn _⟩
  simp only [Leaves, settle, results, Tryd.results31]
  simpa using fin
set_option maxHeartbeats 4000000 in
set_option maxRecDepth 100000 in
theorem do_run (R G cap : Nat) (c3 : Value) (w : World) (hr : RepAt w R 0 0 c3 (.slice (some ⟨G, 0, none⟩) 6 cap)) (hO : Olds w G) (hGR : ¬ G = R) (n : Nat) (hn : n ≤ R) :
    Calls Tryd.prog 24 #[.pointer (some ⟨R, 0, none⟩), .func (.func 25) #[.pointer (some ⟨R, 0, none⟩)] #[]] w fun e w' => e = .returned (.tuple #[]) ∧
      RepAt w' R 1 0 (.iface 78 (.pointer (some ⟨w.heap.size + 1, 0, none⟩))) (.slice none 0 0) ∧ TabK 3 w' (w.heap.size + 1) w.heap.size ∧ Below n w w' := by
  have k0 : w.cell? ⟨R, 0, none⟩ = some (.int .u32 0) := by rw [Lib.cell_of_heap hr]; rfl
  have hl := run_call_load (P := Tryd.prog) Tryd.func36 (by kernel_rfl) (by kernel_rfl) (by kernel_rfl) .u32 (by kernel_rfl) (w := w) (a := ⟨R, 0, none⟩) (x := 0) k0
  have hnot : ∀ (x : Bool) (w : World), (Op.unary .not (.bool x)).run Tryd.prog w = .ok (.bool (!x)) w := fun _ _ => rfl
  go_enter Tryd.func24, Tryd.ntmps24
  go_wp2_with (first | (go_at_call 31; refine (slow_run R G cap c3 w hr hO hGR n hn).mono ?_) | (go_at_call 30; go_in))
  rintro e w2 ⟨rfl, h⟩
  go_wp2
  go_end0
  exact ⟨rfl, h⟩
end Go.Proofs.YtjlkahkehnakfaaDoor
