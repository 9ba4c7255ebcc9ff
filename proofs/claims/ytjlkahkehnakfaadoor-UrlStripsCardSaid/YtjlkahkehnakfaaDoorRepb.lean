/- strings.Replacer: the table that is built for the three signs, walked. No conditions. -/
import Derived.Test.YtjlkahkehnakfaaDoorRepa
import Derived.Deep.WholeRow
import Derived.Laws.MakeOwn
import Derived.Lib.SliceRun
set_option linter.unusedSimpArgs false
set_option linter.unusedVariables false
set_option maxRecDepth 100000
namespace Go.Proofs.YtjlkahkehnakfaaDoor
open Go.RowKit

def vstr (l : List UInt8) : Value := .string ⟨l.toArray⟩
/-- A table of 256 slices with a row of strings behind it. -/
def tabC (T : List Value) (v : Value) : Array Value := (T ++ [v]).toArray
def tabZ : List Value := List.replicate 256 (.slice none 0 0)
theorem zero77 : Tryd.zeroCells77 = tabC tabZ (.slice none 0 0) := by kernel_rfl
theorem build77 (v : Value) (a : Option Addr) (n c : Nat) (hv : v = .slice a n c) (w : World) : (Instr.build 77 #[(1, v)]).run Tryd.prog w = .ok (.agg (tabC tabZ v)) w := by
  subst hv
  have h : Instr.fill (fun i => ([(0, 256), (256, 1)] : List (Nat × Nat))[i]?) Tryd.zeroCells77 [(1, .slice a n c)] = some (tabC tabZ (.slice a n c)) := by kernel_rfl
  have z1 := Tryd.sizeOf75 w
  have z2 := Tryd.sizeOf38 w
  simp [Instr.build, run_underlying Tryd.underlying77, Tryd.zeroValue77, Value.cells, z1, z2, h]
theorem block_lt' {w : World} {b : Nat} {o : Obj} (h : w.heap[b]? = some o) : b < w.heap.size := by
  rcases Nat.lt_or_ge b w.heap.size with h' | h'
  · exact h'
  · simp [Array.getElem?_eq_none h'] at h
theorem store77 (w : World) (n : Nat) (hn : w.heap.size + 1 = n) (o : Obj) (a : Option Addr) (k c : Nat) : (storeCells ⟨n, 0, none⟩ (Tryd.zeroCells77.toList.set 256 (.slice a k c)) 0).run Tryd.prog ((w.alloc o).alloc (.cells Tryd.zeroCells77 77)) = .ok () ((w.alloc o).alloc (.cells (tabC tabZ (.slice a k c)) 77)) := by
  subst hn
  have h : Tryd.zeroCells77.toList.set 256 (.slice a k c) = (tabC tabZ (.slice a k c)).toList := by
    rw [zero77]
    rfl
  have h2 : (w.alloc o).heap.size = w.heap.size + 1 := by simp
  rw [h, ← h2]
  refine run_storeCells_new (P := Tryd.prog) (w.alloc o) _ _ _ (by kernel_rfl) (by rw [zero77]; rfl) ?_
  simp [tabC, tabZ, Value.oneCell']
/-- Room for three strings. -/
theorem make38 (w : World) : (Instr.makeSlice 38 (.int .i64 0) (.int .i64 3)).run Tryd.prog w = .ok (.slice (some ⟨w.heap.size, 0, none⟩) 0 3) (w.alloc (.cells #[vstr [], vstr [], vstr []] 9)) := by
  have h : (Tryd.prog.info? 9).map (fun i => (i.zero, i.size, i.bytes)) = some (some (vstr []), 1, 16) := by kernel_rfl
  obtain ⟨i, hi, e⟩ := Option.map_eq_some_iff.1 h
  simp only [Prod.mk.injEq] at e
  have := run_make (P := Tryd.prog) w 38 9 i (vstr []) Tryd.underlying38 hi e.1 .i64 .i64 0 3 (by omega) (by omega) (by rw [e.2.2]; decide) (by decide)
  rw [e.2.1, show madeCells (vstr []).cells (Int.toNat 3 * 1) = #[vstr [], vstr [], vstr []] by kernel_rfl] at this
  exact this
theorem conv1 (w : World) (n : Nat) (hn : w.heap.size = n) (z : Int) (c : UInt8) (hc : UInt8.ofNat z.toNat = c) : (convert 56 9 (.slice (some ⟨n, 0, none⟩) 1 1)).run Tryd.prog (w.alloc (.cells #[.int .u8 z] 5)) = .ok (.string ⟨#[c]⟩) (w.alloc (.cells #[.int .u8 z] 5)) := by
  subst hn hc
  refine run_convert_bytes_arg (P := Tryd.prog) _ 56 5 Tryd.underlying56 Tryd.underlying5 w.heap.size 0 1 1 [z] rfl (fun i hi => ?_) 9 Tryd.underlying9
  obtain rfl : i = 0 := by omega
  rw [Nat.zero_add, Lib.cell_of_heap (heap_alloc_new w _)]
  rfl
def capE (w : World) : Nat := grownCap w 0 0 5
def objE (w : World) : Obj := .cells (bytesRow ⟨#[]⟩ (capE w)) 5 ((bytesRow ⟨#[]⟩ (capE w)).size, (bytesRow ⟨#[]⟩ (capE w)).size + 1)
theorem convE (w : World) : (convert 9 56 (.string ⟨#[]⟩)).run Tryd.prog w = .ok (.slice (some ⟨w.heap.size, 0, none⟩) 0 (capE w)) (w.drew.alloc (objE w)) :=
  run_bytes_of_string w 9 56 5 ⟨#[]⟩ Tryd.underlying9 Tryd.underlying56 Tryd.underlying5
def sgnR (k : Nat) : UInt8 := [13, 10, 9].getD k 0
/-- The table with its first k signs. -/
def TabK (k : Nat) (w : World) (B Gr : Nat) : Prop := ∃ T : List Value, T.length = 256 ∧ w.heap[B]? = some (.cells (tabC T (.slice (some ⟨Gr, 0, none⟩) k 3)) 77 (0, 0)) ∧
  (∀ b, b < 256 → (∀ j, j < k → b ≠ (sgnR j).toNat) → T[b]? = some (.slice none 0 0)) ∧ (∀ j, j < k → ∃ a c, T[(sgnR j).toNat]? = some (.slice (some a) 0 c)) ∧
  ∃ cur : Array Value, cur.size = 3 ∧ w.heap[Gr]? = some (.cells cur 9 (0, 0)) ∧ ∀ j, j < k → cur[j]? = some (vstr [sgnR j])
theorem setCell_at {w : World} {b : Nat} {cs : Array Value} {t : TypeId} {fz : Nat × Nat} (h : w.heap[b]? = some (.cells cs t fz)) (o : Nat) (v : Value) : (w.setCell ⟨b, o, none⟩ v).heap[b]? = some (.cells (cs.setIfInBounds o v) t fz) := by
  simp [World.setCell, Array.getElem?_modify, h]
theorem tabC_last (T : List Value) (hT : T.length = 256) (v u : Value) : (tabC T v).setIfInBounds 256 u = tabC T u := by
  simp [tabC, List.set_append, hT]
theorem tabC_set (T : List Value) (hT : T.length = 256) (v u : Value) {b : Nat} (hb : b < 256) : (tabC T v).setIfInBounds b u = tabC (T.set b u) v := by
  simp [tabC, List.set_append, hT, hb]
theorem sgnR_lt : ∀ k, k < 3 → (sgnR k).toNat < 256 := fun k _ => (sgnR k).toNat_lt
theorem sgnR_inj' : ∀ j, j < 3 → ∀ k, k < 3 → (sgnR j).toNat = (sgnR k).toNat → j = k := by decide
theorem sgnR_inj (j k : Nat) (hj : j < 3) (hk : k < 3) (h : (sgnR j).toNat = (sgnR k).toNat) : j = k := sgnR_inj' j hj k hk h
theorem tab_step {k B Gr : Nat} {w : World} (hk : k < 3) (hne : ¬ Gr = B) (hT : TabK k w B Gr) (a : Addr) (c : Nat) (o1 o2 o3 : Obj) :
    TabK (k + 1) ((((((w.setCell ⟨Gr, k, none⟩ (vstr [sgnR k])).setCell ⟨B, 256, none⟩ (.slice (some ⟨Gr, 0, none⟩) (k + 1) 3)).setCell ⟨B, (sgnR k).toNat, none⟩ (.slice (some a) 0 c)).alloc o1).alloc o2).alloc o3).drew B Gr := by
  obtain ⟨T, hTl, hTB, hT1, hT2, cur, hcs, hcb, hcv⟩ := hT
  have hb := sgnR_lt k hk
  have h1 : (((w.setCell ⟨Gr, k, none⟩ (vstr [sgnR k])).setCell ⟨B, 256, none⟩ (.slice (some ⟨Gr, 0, none⟩) (k + 1) 3)).setCell ⟨B, (sgnR k).toNat, none⟩ (.slice (some a) 0 c)).heap[B]? = some (.cells (tabC (T.set (sgnR k).toNat (.slice (some a) 0 c)) (.slice (some ⟨Gr, 0, none⟩) (k + 1) 3)) 77 (0, 0)) := by
    rw [setCell_at (setCell_at ((Below.heap_setCell w ⟨Gr, k, none⟩ (vstr [sgnR k]) B (fun e => hne e.symm)).trans hTB) 256 _) (sgnR k).toNat _, tabC_last T hTl, tabC_set T hTl _ _ hb]
  have h2 : (((w.setCell ⟨Gr, k, none⟩ (vstr [sgnR k])).setCell ⟨B, 256, none⟩ (.slice (some ⟨Gr, 0, none⟩) (k + 1) 3)).setCell ⟨B, (sgnR k).toNat, none⟩ (.slice (some a) 0 c)).heap[Gr]? = some (.cells (cur.setIfInBounds k (vstr [sgnR k])) 9 (0, 0)) := by
    rw [Below.heap_setCell _ _ _ _ hne, Below.heap_setCell _ _ _ _ hne, setCell_at hcb]
  have al : ∀ {W : World} {b : Nat} {o : Obj} (p : Obj), W.heap[b]? = some o → (W.alloc p).heap[b]? = some o := fun p h => (Below.heap_alloc _ p _ (block_lt' h)).trans h
  refine ⟨T.set (sgnR k).toNat (.slice (some a) 0 c), by simpa using hTl, al o3 (al o2 (al o1 h1)), fun b hb' hj => ?_, fun j hj => ?_, cur.setIfInBounds k (vstr [sgnR k]), by simpa using hcs, al o3 (al o2 (al o1 h2)), fun j hj => ?_⟩
  · rw [List.getElem?_set_ne (fun e => hj k (by omega) e.symm)]
    exact hT1 b hb' (fun j hj' => hj j (by omega))
  · by_cases e : j = k
    · subst e
      exact ⟨a, c, by rw [List.getElem?_set_self (by omega)]⟩
    · rw [List.getElem?_set_ne (fun h => e (sgnR_inj _ _ hk (by omega) h).symm)]
      exact hT2 j (by omega)
  · by_cases e : j = k
    · subst e
      simp [hcs, hk]
    · rw [Array.getElem?_setIfInBounds_ne (fun h => e h.symm)]
      exact hcv j (by omega)
theorem below_step {B Gr k x n : Nat} {w wr : World} (h : Below n w wr) (hG : n ≤ Gr) (hB : n ≤ B) (v1 v2 v3 : Value) (o1 o2 o3 : Obj) (hn : n ≤ wr.heap.size) :
    Below n w ((((((wr.setCell ⟨Gr, k, none⟩ v1).setCell ⟨B, 256, none⟩ v2).setCell ⟨B, x, none⟩ v3).alloc o1).alloc o2).alloc o3).drew := by
  have h1 := ((h.setCell (p := ⟨Gr, k, none⟩) hG v1).setCell (p := ⟨B, 256, none⟩) hB v2).setCell (p := ⟨B, x, none⟩) hB v3
  have hs : n ≤ (((wr.setCell ⟨Gr, k, none⟩ v1).setCell ⟨B, 256, none⟩ v2).setCell ⟨B, x, none⟩ v3).heap.size := by simpa [World.setCell] using hn
  refine Below.drew (Below.alloc (Below.alloc (Below.alloc h1 hs o1) ?_ o2) ?_ o3)
  · simp [World.setCell]; omega
  · simp [World.setCell]; omega
theorem tab_start (w : World) : TabK 0 ((w.alloc (.cells #[.string ⟨#[]⟩, .string ⟨#[]⟩, .string ⟨#[]⟩] 9)).alloc (.cells (tabC tabZ (.slice (some ⟨w.heap.size, 0, none⟩) 0 3)) 77)) (w.heap.size + 1) w.heap.size := by
  have h2 : (w.alloc (.cells #[.string ⟨#[]⟩, .string ⟨#[]⟩, .string ⟨#[]⟩] 9)).heap.size = w.heap.size + 1 := by simp
  refine ⟨tabZ, by simp [tabZ], ?_, fun b hb _ => ?_, fun j hj => by omega, _, rfl, (Below.heap_alloc _ _ _ (by omega)).trans (heap_alloc_last w _), fun j hj => by omega⟩
  · rw [← h2]
    exact heap_alloc_last _ _
  · rw [tabZ, List.getElem?_replicate, if_pos hb]
set_option maxHeartbeats 4000000 in
set_option maxRecDepth 100000 in
theorem build_run (R G cap : Nat) (c0 c1 c2 c3 : Value) (fz : Nat × Nat) (cur : Array Value) (w : World) (hr : w.heap[R]? = some (.cells #[c0, c1, c2, c3, .slice (some ⟨G, 0, none⟩) 6 cap] 54 (0, 0)))
    (hG : G < w.heap.size) (hg0 : w.cell? ⟨G, 0, none⟩ = some (vstr [9])) (hg1 : w.cell? ⟨G, 1, none⟩ = some (vstr [])) (hg2 : w.cell? ⟨G, 2, none⟩ = some (vstr [10])) (hg3 : w.cell? ⟨G, 3, none⟩ = some (vstr [])) (hg4 : w.cell? ⟨G, 4, none⟩ = some (vstr [13])) (hg5 : w.cell? ⟨G, 5, none⟩ = some (vstr [])) :
    Calls Tryd.prog 32 #[.pointer (some ⟨R, 0, none⟩)] w fun e w' => e = .returned (.iface 78 (.pointer (some ⟨w.heap.size + 1, 0, none⟩))) ∧ TabK 3 w' (w.heap.size + 1) w.heap.size ∧ Below w.heap.size w w' := by
  have r4 : w.cell? ⟨R, 4, none⟩ = some (.slice (some ⟨G, 0, none⟩) 6 cap) := by rw [Lib.cell_of_heap hr]; rfl
  have hmk := make38
  unfold vstr at hmk
  have q1 := fun a l c w => Lib.run_eql_slice_nil (P := Tryd.prog) w 56 5 a l c 0 0 Tryd.underlying56
  have cve := convE
  have hst := store77 w (w.heap.size + 1) rfl
  unfold vstr at hg0 hg1 hg2 hg3 hg4 hg5
  go_enter Tryd.func32, Tryd.ntmps32
  go_wp2
  go_rounds 4
  go_loopw [12] (fun i wr => ∃ k : Nat, k ≤ 3 ∧ i = .int .i64 (4 - 2 * (k : Int)) ∧ TabK k wr (w.heap.size + 1) w.heap.size ∧ Below w.heap.size w wr) (fun i _ => (intOf i + 2).toNat)
  case atStart => exact ⟨0, by decide, rfl, tab_start w, Below.alloc (Below.alloc (Below.refl _ _) (Nat.le_refl _) _) (by simp) _⟩
  case round =>
    obtain ⟨k, hk, hi, hT, hB⟩ := hrel
    have hTK := hT
    obtain ⟨T, hTl, hTB, hT1, hT2, cur, hcs, hcb, hcv⟩ := hT
    have q0 : wr.cell? ⟨G, 0, none⟩ = some (.string ⟨#[9]⟩) := (hB.cell hG).trans hg0
    have q1 : wr.cell? ⟨G, 1, none⟩ = some (.string ⟨#[]⟩) := (hB.cell hG).trans hg1
    have q2 : wr.cell? ⟨G, 2, none⟩ = some (.string ⟨#[10]⟩) := (hB.cell hG).trans hg2
    have q3 : wr.cell? ⟨G, 3, none⟩ = some (.string ⟨#[]⟩) := (hB.cell hG).trans hg3
    have q4 : wr.cell? ⟨G, 4, none⟩ = some (.string ⟨#[13]⟩) := (hB.cell hG).trans hg4
    have q5 : wr.cell? ⟨G, 5, none⟩ = some (.string ⟨#[]⟩) := (hB.cell hG).trans hg5
    have b256 : wr.cell? ⟨w.heap.size + 1, 256, none⟩ = some (.slice (some ⟨w.heap.size, 0, none⟩) k 3) := by
      rw [Lib.cell_of_heap hTB]
      simp [tabC, List.getElem?_append_right, hTl]
    have bT : ∀ b, b < 256 → wr.cell? ⟨w.heap.size + 1, b, none⟩ = T[b]? := by
      intro b hb
      rw [Lib.cell_of_heap hTB]
      simp [tabC, List.getElem?_append_left, hTl, hb]
    have gc : ∀ j (hj : j < 3), wr.cell? ⟨w.heap.size, j, none⟩ = some (cur[j]'(by omega)) := by
      intro j hj
      rw [Lib.cell_of_heap hcb]
      exact Array.getElem?_eq_getElem (by omega)
    have gf : ∀ j, wr.frozen? ⟨w.heap.size, j, none⟩ = false := fun j => Lib.frozen_of_heap hcb j
    have bf : ∀ j, wr.frozen? ⟨w.heap.size + 1, j, none⟩ = false := fun j => Lib.frozen_of_heap hTB j
    have lt0 : w.heap.size < wr.heap.size := block_lt' hcb
    have lt1 : w.heap.size + 1 < wr.heap.size := block_lt' hTB
    have k0 : k = 0 ∨ k = 1 ∨ k = 2 ∨ k = 3 := by omega
    rcases k0 with rfl | rfl | rfl | rfl
    · obtain rfl := (show _ = Value.int .i64 4 from hi)
      have cv := conv1 wr wr.heap.size rfl 13 13 rfl
      have x13 : ∀ h, ((⟨#[13]⟩ : ByteArray)[0]'h).toNat = 13 := fun _ => rfl
      have b13 : wr.cell? ⟨w.heap.size + 1, 13, none⟩ = some (.slice none 0 0) := (bT 13 (by decide)).trans (hT1 13 (by decide) (by decide))
      have gk := gc 0 (by decide)
      have gkf := gf 0
      have bf13 := bf 13
      have bf256 := bf 256
      clear bT gc gf bf
      go_wp2
      refine ⟨⟨1, by decide, rfl, tab_step (k := 0) (by decide) (by omega) hTK _ _ _ _ _, below_step hB (Nat.le_refl _) (by omega) _ _ _ _ _ _ (by omega)⟩, by decide⟩
    · obtain rfl := (show _ = Value.int .i64 2 from hi)
      have cv := conv1 wr wr.heap.size rfl 10 10 rfl
      have x13 : ∀ h, ((⟨#[10]⟩ : ByteArray)[0]'h).toNat = 10 := fun _ => rfl
      have b13 : wr.cell? ⟨w.heap.size + 1, 10, none⟩ = some (.slice none 0 0) := (bT 10 (by decide)).trans (hT1 10 (by decide) (by decide))
      have gk := gc 1 (by decide)
      have gkf := gf 1
      have bf13 := bf 10
      have bf256 := bf 256
      clear bT gc gf bf
      go_wp2
      refine ⟨⟨2, by decide, rfl, tab_step (k := 1) (by decide) (by omega) hTK _ _ _ _ _, below_step hB (Nat.le_refl _) (by omega) _ _ _ _ _ _ (by omega)⟩, by decide⟩
    · obtain rfl := (show _ = Value.int .i64 0 from hi)
      have cv := conv1 wr wr.heap.size rfl 9 9 rfl
      have x13 : ∀ h, ((⟨#[9]⟩ : ByteArray)[0]'h).toNat = 9 := fun _ => rfl
      have b13 : wr.cell? ⟨w.heap.size + 1, 9, none⟩ = some (.slice none 0 0) := (bT 9 (by decide)).trans (hT1 9 (by decide) (by decide))
      have gk := gc 2 (by decide)
      have gkf := gf 2
      have bf13 := bf 9
      have bf256 := bf 256
      clear bT gc gf bf
      go_wp2
      refine ⟨⟨3, by decide, rfl, tab_step (k := 2) (by decide) (by omega) hTK _ _ _ _ _, below_step hB (Nat.le_refl _) (by omega) _ _ _ _ _ _ (by omega)⟩, by decide⟩
    · obtain rfl := (show _ = Value.int .i64 (-2) from hi)
      clear bT gc gf bf
      go_wp2
      go_ret
      exact ⟨rfl, hTK, hB⟩
end Go.Proofs.YtjlkahkehnakfaaDoor
