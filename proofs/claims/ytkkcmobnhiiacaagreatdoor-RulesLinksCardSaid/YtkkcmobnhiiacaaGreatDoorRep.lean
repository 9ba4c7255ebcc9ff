/- url.Strip, walked. No conditions. -/
import Derived.Test.YtkkcmobnhiiacaaGreatDoorUrlLet
import Derived.Test.YtkkcmobnhiiacaaGreatDoorOwn
import Derived.Handy
import Derived.Defers
import Derived.Laws.Pointers
import Derived.Laws.LoneSync
import Derived.RegionTactic
import Derived.RegionCalls
import Derived.Deep.WholeRow
import Derived.Laws.MakeOwn
import Derived.Lib.SliceRun
import Derived.Lib.Bytealg
import Derived.Deep.LoopGhost
import Derived.Laws.CopyOwn
import Derived.Laws.Cover3
/-! sync.Once and its lock, walked: the two calls that it defers, the lock that is free. No conditions. -/
set_option linter.unusedSimpArgs false
set_option linter.unusedVariables false
set_option maxRecDepth 100000
namespace Go.Proofs.YtkkcmobnhiiacaaGreatDoor
open Go.RowKit

theorem rp_disable (w : World) : (callFunc 68 #[]).run Tryz.prog w = .ok (.value (.tuple #[])) w := run_call_mark0 Tryz.func68 (by kernel_rfl) (by kernel_rfl) (by kernel_rfl) .disable (by kernel_rfl) w
theorem rp_enable (w : World) : (callFunc 70 #[]).run Tryz.prog w = .ok (.value (.tuple #[])) w := run_call_mark0 Tryz.func70 (by kernel_rfl) (by kernel_rfl) (by kernel_rfl) .enable (by kernel_rfl) w
theorem rp_acquire (a : Addr) (w : World) : (callFunc 71 #[.pointer (some a)]).run Tryz.prog w = .ok (.value (.tuple #[])) w := run_call_marked Tryz.func71 (by kernel_rfl) (by kernel_rfl) (by kernel_rfl) .acquire (by kernel_rfl) a w
theorem rp_merge (a : Addr) (w : World) : (callFunc 73 #[.pointer (some a)]).run Tryz.prog w = .ok (.value (.tuple #[])) w := run_call_marked Tryz.func73 (by kernel_rfl) (by kernel_rfl) (by kernel_rfl) .releaseMerge (by kernel_rfl) a w
/-- (*sync/atomic.Bool).Store(true), entered as a deferred call. -/
theorem rp_store (a : Addr) (x : Value) (u : FrameMode) (w : World) (hc : w.cell? a = some x) (hz : w.frozen? a = false) :
    CallsD Tryz.prog 54 #[.pointer (some a), .bool true] u w fun e u' w' => u' = u ∧ (e = .returned (.tuple #[]) ∧ w' = w.drew.setCell a (.int .u32 1)) := by
  have hc' : w.drew.cell? a = some x := by go_simp
  have hz' : w.drew.frozen? a = false := by go_simp
  have hst := run_call_store (P := Tryz.prog) Tryz.func63 (by kernel_rfl) (by kernel_rfl) (by kernel_rfl) (by kernel_rfl) (k := .u32) (y := 1) hc' hz'
  go_enter_d Tryz.func54, Tryz.ntmps54
  go_wp2
  go_region_calls
  all_goals (go_end0; exact ⟨rfl, rfl⟩)
/-- (*sync.Mutex).Unlock, entered as a deferred call, the lock held and nobody waiting. -/
theorem rp_unlock (a : Addr) (u : FrameMode) (w : World) (hc : w.cell? a = some (.int .i32 1)) (hz : w.frozen? a = false) :
    CallsD Tryz.prog 53 #[.pointer (some a)] u w fun e u' w' => u' = u ∧ (e = .returned (.tuple #[]) ∧ w' = w.setCell a (.int .i32 0)) := by
  have hd := rp_disable
  have he := rp_enable
  have hr := rp_merge
  have hadd := run_call_add (P := Tryz.prog) Tryz.func74 (by kernel_rfl) (by kernel_rfl) (by kernel_rfl) .i32 (by kernel_rfl) (y := -1) (s := 0) hc hz (by simp [go_sem]; rfl)
  have hcv := run_convert_to_unsafe (P := Tryz.prog) (src := 124) (dst := 128) Tryz.underlying124 Tryz.underlying128 (by kernel_rfl) hc
  go_enter_d Tryz.func53, Tryz.ntmps53
  go_wp2
  go_end0
  exact ⟨rfl, rfl⟩
/-- (*sync.Mutex).Lock, the lock free. -/
theorem rp_lock (a : Addr) (w : World) (hc : w.cell? a = some (.int .i32 0)) (hz : w.frozen? a = false) :
    Calls Tryz.prog 52 #[.pointer (some a)] w fun e w' => e = .returned (.tuple #[]) ∧ w' = w.setCell a (.int .i32 1) := by
  have hd := rp_disable
  have he := rp_enable
  have ha := rp_acquire
  have hcas := run_call_cas_hit (P := Tryz.prog) Tryz.func69 (by kernel_rfl) (by kernel_rfl) (by kernel_rfl) .i32 (by kernel_rfl) (y := 1) hc hz
  have hc' : (w.setCell a (.int .i32 1)).cell? a = some (.int .i32 1) := World.cell?_setCell_same w a _ hc
  have hcv := run_convert_to_unsafe (P := Tryz.prog) (src := 124) (dst := 128) Tryz.underlying124 Tryz.underlying128 (by kernel_rfl) hc'
  go_enter Tryz.func52, Tryz.ntmps52
  go_wp2
  go_end0
  exact ⟨rfl, rfl⟩
end Go.Proofs.YtkkcmobnhiiacaaGreatDoor

/-! strings.Replacer: the table that is built for the three signs, walked. No conditions. -/
namespace Go.Proofs.YtkkcmobnhiiacaaGreatDoor
open Go.RowKit

def vstr (l : List UInt8) : Value := .string ⟨l.toArray⟩
/-- A table of 256 slices with a row of strings behind it. -/
def tabC (T : List Value) (v : Value) : Array Value := (T ++ [v]).toArray
def tabZ : List Value := List.replicate 256 (.slice none 0 0)
theorem zero77 : Tryz.zeroCells100 = tabC tabZ (.slice none 0 0) := by kernel_rfl
theorem build77 (v : Value) (a : Option Addr) (n c : Nat) (hv : v = .slice a n c) (w : World) : (Instr.build 100 #[(1, v)]).run Tryz.prog w = .ok (.agg (tabC tabZ v)) w := by
  subst hv
  have h : Instr.fill (fun i => ([(0, 256), (256, 1)] : List (Nat × Nat))[i]?) Tryz.zeroCells100 [(1, .slice a n c)] = some (tabC tabZ (.slice a n c)) := by kernel_rfl
  have z1 := Tryz.sizeOf98 w
  have z2 := Tryz.sizeOf22 w
  simp [Instr.build, run_underlying Tryz.underlying100, Tryz.zeroValue100, Value.cells, z1, z2, h]
theorem block_lt' {w : World} {b : Nat} {o : Obj} (h : w.heap[b]? = some o) : b < w.heap.size := by
  rcases Nat.lt_or_ge b w.heap.size with h' | h'
  · exact h'
  · simp [Array.getElem?_eq_none h'] at h
theorem store77 (w : World) (n : Nat) (hn : w.heap.size + 1 = n) (o : Obj) (a : Option Addr) (k c : Nat) : (storeCells ⟨n, 0, none⟩ (Tryz.zeroCells100.toList.set 256 (.slice a k c)) 0).run Tryz.prog ((w.alloc o).alloc (.cells Tryz.zeroCells100 100)) = .ok () ((w.alloc o).alloc (.cells (tabC tabZ (.slice a k c)) 100)) := by
  subst hn
  have h : Tryz.zeroCells100.toList.set 256 (.slice a k c) = (tabC tabZ (.slice a k c)).toList := by
    rw [zero77]
    rfl
  have h2 : (w.alloc o).heap.size = w.heap.size + 1 := by simp
  rw [h, ← h2]
  refine run_storeCells_new (P := Tryz.prog) (w.alloc o) _ _ _ (by kernel_rfl) (by rw [zero77]; rfl) ?_
  simp [tabC, tabZ, Value.oneCell']
/-- Room for three strings. -/
theorem make38 (w : World) : (Instr.makeSlice 22 (.int .i64 0) (.int .i64 3)).run Tryz.prog w = .ok (.slice (some ⟨w.heap.size, 0, none⟩) 0 3) (w.alloc (.cells #[vstr [], vstr [], vstr []] 9)) := by
  have h : (Tryz.prog.info? 9).map (fun i => (i.zero, i.size, i.bytes)) = some (some (vstr []), 1, 16) := by kernel_rfl
  obtain ⟨i, hi, e⟩ := Option.map_eq_some_iff.1 h
  simp only [Prod.mk.injEq] at e
  have := run_make (P := Tryz.prog) w 22 9 i (vstr []) Tryz.underlying22 hi e.1 .i64 .i64 0 3 (by omega) (by omega) (by rw [e.2.2]; decide) (by decide)
  rw [e.2.1, show madeCells (vstr []).cells (Int.toNat 3 * 1) = #[vstr [], vstr [], vstr []] by kernel_rfl] at this
  exact this
theorem conv1 (w : World) (n : Nat) (hn : w.heap.size = n) (z : Int) (c : UInt8) (hc : UInt8.ofNat z.toNat = c) : (convert 55 9 (.slice (some ⟨n, 0, none⟩) 1 1)).run Tryz.prog (w.alloc (.cells #[.int .u8 z] 5)) = .ok (.string ⟨#[c]⟩) (w.alloc (.cells #[.int .u8 z] 5)) := by
  subst hn hc
  refine run_convert_bytes_arg (P := Tryz.prog) _ 55 5 Tryz.underlying55 Tryz.underlying5 w.heap.size 0 1 1 [z] rfl (fun i hi => ?_) 9 Tryz.underlying9
  obtain rfl : i = 0 := by omega
  rw [Nat.zero_add, Lib.cell_of_heap (heap_alloc_new w _)]
  rfl
def capE (w : World) : Nat := grownCap w 0 0 5
def objE (w : World) : Obj := .cells (bytesRow ⟨#[]⟩ (capE w)) 5 ((bytesRow ⟨#[]⟩ (capE w)).size, (bytesRow ⟨#[]⟩ (capE w)).size + 1)
theorem convE (w : World) : (convert 9 55 (.string ⟨#[]⟩)).run Tryz.prog w = .ok (.slice (some ⟨w.heap.size, 0, none⟩) 0 (capE w)) (w.drew.alloc (objE w)) :=
  run_bytes_of_string w 9 55 5 ⟨#[]⟩ Tryz.underlying9 Tryz.underlying55 Tryz.underlying5
def sgnR (k : Nat) : UInt8 := [13, 10, 9].getD k 0
/-- The table with its first k signs. -/
def TabK (k : Nat) (w : World) (B Gr : Nat) : Prop := ∃ T : List Value, T.length = 256 ∧ w.heap[B]? = some (.cells (tabC T (.slice (some ⟨Gr, 0, none⟩) k 3)) 100 (0, 0)) ∧
  (∀ b, b < 256 → (∀ j, j < k → b ≠ (sgnR j).toNat) → T[b]? = some (.slice none 0 0)) ∧ (∀ j, j < k → ∃ a c, T[(sgnR j).toNat]? = some (.slice (some a) 0 c)) ∧
  ∃ cur : Array Value, cur.size = 3 ∧ w.heap[Gr]? = some (.cells cur 9 (0, 0)) ∧ ∀ j, j < k → cur[j]? = some (vstr [sgnR j])
theorem setCell_at {w : World} {b : Nat} {cs : Array Value} {t : TypeId} {fz : Nat × Nat} (h : w.heap[b]? = some (.cells cs t fz)) (o : Nat) (v : Value) : (w.setCell ⟨b, o, none⟩ v).heap[b]? = some (.cells (cs.setIfInBounds o v) t fz) := by
  simp [World.setCell, Array.getElem?_modify, h]
theorem tabC_last (T : List Value) (hT : T.length = 256) (v u : Value) : (tabC T v).setIfInBounds 256 u = tabC T u := by
  simp [tabC, List.set_append, hT]
theorem tabC_set (T : List Value) (hT : T.length = 256) (v u : Value) {b : Nat} (hb : b < 256) : (tabC T v).setIfInBounds b u = tabC (T.set b u) v := by
  simp [tabC, List.set_append, hT, hb]
theorem sgnR_lt : ∀ k, k < 3 → (sgnR k).toNat < 256 := fun k _ => (sgnR k).toNat_lt
theorem sgnR_inj' : ∀ j, j < 3 → ∀ k, k < 3 → (sgnR j).toNat = (sgnR k).toNat → j = k := by decide
theorem sgnR_inj (j k : Nat) (hj : j < 3) (hk : k < 3) (h : (sgnR j).toNat = (sgnR k).toNat) : j = k := sgnR_inj' j hj k hk h
theorem tab_step {k B Gr : Nat} {w : World} (hk : k < 3) (hne : ¬ Gr = B) (hT : TabK k w B Gr) (a : Addr) (c : Nat) (o1 o2 o3 : Obj) :
    TabK (k + 1) ((((((w.setCell ⟨Gr, k, none⟩ (vstr [sgnR k])).setCell ⟨B, 256, none⟩ (.slice (some ⟨Gr, 0, none⟩) (k + 1) 3)).setCell ⟨B, (sgnR k).toNat, none⟩ (.slice (some a) 0 c)).alloc o1).alloc o2).alloc o3).drew B Gr := by
  obtain ⟨T, hTl, hTB, hT1, hT2, cur, hcs, hcb, hcv⟩ := hT
  have hb := sgnR_lt k hk
  have h1 : (((w.setCell ⟨Gr, k, none⟩ (vstr [sgnR k])).setCell ⟨B, 256, none⟩ (.slice (some ⟨Gr, 0, none⟩) (k + 1) 3)).setCell ⟨B, (sgnR k).toNat, none⟩ (.slice (some a) 0 c)).heap[B]? = some (.cells (tabC (T.set (sgnR k).toNat (.slice (some a) 0 c)) (.slice (some ⟨Gr, 0, none⟩) (k + 1) 3)) 100 (0, 0)) := by
    rw [setCell_at (setCell_at ((Below.heap_setCell w ⟨Gr, k, none⟩ (vstr [sgnR k]) B (fun e => hne e.symm)).trans hTB) 256 _) (sgnR k).toNat _, tabC_last T hTl, tabC_set T hTl _ _ hb]
  have h2 : (((w.setCell ⟨Gr, k, none⟩ (vstr [sgnR k])).setCell ⟨B, 256, none⟩ (.slice (some ⟨Gr, 0, none⟩) (k + 1) 3)).setCell ⟨B, (sgnR k).toNat, none⟩ (.slice (some a) 0 c)).heap[Gr]? = some (.cells (cur.setIfInBounds k (vstr [sgnR k])) 9 (0, 0)) := by
    rw [Below.heap_setCell _ _ _ _ hne, Below.heap_setCell _ _ _ _ hne, setCell_at hcb]
  have al : ∀ {W : World} {b : Nat} {o : Obj} (p : Obj), W.heap[b]? = some o → (W.alloc p).heap[b]? = some o := fun p h => (Below.heap_alloc _ p _ (block_lt' h)).trans h
  refine ⟨T.set (sgnR k).toNat (.slice (some a) 0 c), by simpa using hTl, al o3 (al o2 (al o1 h1)), fun b hb' hj => ?_, fun j hj => ?_, cur.setIfInBounds k (vstr [sgnR k]), by simpa using hcs, al o3 (al o2 (al o1 h2)), fun j hj => ?_⟩
  · rw [List.getElem?_set_ne (fun e => hj k (by omega) e.symm)]
    exact hT1 b hb' (fun j hj' => hj j (by omega))
  · by_cases e : j = k
    · subst e
      exact ⟨a, c, by rw [List.getElem?_set_self (by omega)]⟩
    · rw [List.getElem?_set_ne (fun h => e (sgnR_inj _ _ hk (by omega) h).symm)]
      exact hT2 j (by omega)
  · by_cases e : j = k
    · subst e
      simp [hcs, hk]
    · rw [Array.getElem?_setIfInBounds_ne (fun h => e h.symm)]
      exact hcv j (by omega)
theorem below_step {B Gr k x n : Nat} {w wr : World} (h : Below n w wr) (hG : n ≤ Gr) (hB : n ≤ B) (v1 v2 v3 : Value) (o1 o2 o3 : Obj) (hn : n ≤ wr.heap.size) :
    Below n w ((((((wr.setCell ⟨Gr, k, none⟩ v1).setCell ⟨B, 256, none⟩ v2).setCell ⟨B, x, none⟩ v3).alloc o1).alloc o2).alloc o3).drew := by
  have h1 := ((h.setCell (p := ⟨Gr, k, none⟩) hG v1).setCell (p := ⟨B, 256, none⟩) hB v2).setCell (p := ⟨B, x, none⟩) hB v3
  have hs : n ≤ (((wr.setCell ⟨Gr, k, none⟩ v1).setCell ⟨B, 256, none⟩ v2).setCell ⟨B, x, none⟩ v3).heap.size := by simpa [World.setCell] using hn
  refine Below.drew (Below.alloc (Below.alloc (Below.alloc h1 hs o1) ?_ o2) ?_ o3)
  · simp [World.setCell]; omega
  · simp [World.setCell]; omega
theorem tab_start (w : World) : TabK 0 ((w.alloc (.cells #[.string ⟨#[]⟩, .string ⟨#[]⟩, .string ⟨#[]⟩] 9)).alloc (.cells (tabC tabZ (.slice (some ⟨w.heap.size, 0, none⟩) 0 3)) 100)) (w.heap.size + 1) w.heap.size := by
  have h2 : (w.alloc (.cells #[.string ⟨#[]⟩, .string ⟨#[]⟩, .string ⟨#[]⟩] 9)).heap.size = w.heap.size + 1 := by simp
  refine ⟨tabZ, by simp [tabZ], ?_, fun b hb _ => ?_, fun j hj => by omega, _, rfl, (Below.heap_alloc _ _ _ (by omega)).trans (heap_alloc_last w _), fun j hj => by omega⟩
  · rw [← h2]
    exact heap_alloc_last _ _
  · rw [tabZ, List.getElem?_replicate, if_pos hb]
set_option maxHeartbeats 4000000 in
set_option maxRecDepth 100000 in
theorem build_run (R G cap : Nat) (c0 c1 c2 c3 : Value) (fz : Nat × Nat) (cur : Array Value) (w : World) (hr : w.heap[R]? = some (.cells #[c0, c1, c2, c3, .slice (some ⟨G, 0, none⟩) 6 cap] 78 (0, 0)))
    (hG : G < w.heap.size) (hg0 : w.cell? ⟨G, 0, none⟩ = some (vstr [9])) (hg1 : w.cell? ⟨G, 1, none⟩ = some (vstr [])) (hg2 : w.cell? ⟨G, 2, none⟩ = some (vstr [10])) (hg3 : w.cell? ⟨G, 3, none⟩ = some (vstr [])) (hg4 : w.cell? ⟨G, 4, none⟩ = some (vstr [13])) (hg5 : w.cell? ⟨G, 5, none⟩ = some (vstr [])) :
    Calls Tryz.prog 47 #[.pointer (some ⟨R, 0, none⟩)] w fun e w' => e = .returned (.iface 101 (.pointer (some ⟨w.heap.size + 1, 0, none⟩))) ∧ TabK 3 w' (w.heap.size + 1) w.heap.size ∧ Below w.heap.size w w' := by
  have r4 : w.cell? ⟨R, 4, none⟩ = some (.slice (some ⟨G, 0, none⟩) 6 cap) := by rw [Lib.cell_of_heap hr]; rfl
  have hmk := make38
  unfold vstr at hmk
  have q1 := fun a l c w => Lib.run_eql_slice_nil (P := Tryz.prog) w 55 5 a l c 0 0 Tryz.underlying55
  have cve := convE
  have hst := store77 w (w.heap.size + 1) rfl
  unfold vstr at hg0 hg1 hg2 hg3 hg4 hg5
  go_enter Tryz.func47, Tryz.ntmps47
  go_wp2
  go_rounds 4
  go_loopw [12] (fun i wr => ∃ k : Nat, k ≤ 3 ∧ i = .int .i64 (4 - 2 * (k : Int)) ∧ TabK k wr (w.heap.size + 1) w.heap.size ∧ Below w.heap.size w wr) (fun i _ => (intOf i + 2).toNat)
  case atStart => exact ⟨0, by decide, rfl, tab_start w, Below.alloc (Below.alloc (Below.refl _ _) (Nat.le_refl _) _) (by simp) _⟩
  case round =>
    obtain ⟨k, hk, hi, hT, hB⟩ := hrel
    have hTK := hT
    obtain ⟨T, hTl, hTB, hT1, hT2, cur, hcs, hcb, hcv⟩ := hT
    have q0 : wr.cell? ⟨G, 0, none⟩ = some (.string ⟨#[9]⟩) := (hB.cell hG).trans hg0
    have q1 : wr.cell? ⟨G, 1, none⟩ = some (.string ⟨#[]⟩) := (hB.cell hG).trans hg1
    have q2 : wr.cell? ⟨G, 2, none⟩ = some (.string ⟨#[10]⟩) := (hB.cell hG).trans hg2
    have q3 : wr.cell? ⟨G, 3, none⟩ = some (.string ⟨#[]⟩) := (hB.cell hG).trans hg3
    have q4 : wr.cell? ⟨G, 4, none⟩ = some (.string ⟨#[13]⟩) := (hB.cell hG).trans hg4
    have q5 : wr.cell? ⟨G, 5, none⟩ = some (.string ⟨#[]⟩) := (hB.cell hG).trans hg5
    have b256 : wr.cell? ⟨w.heap.size + 1, 256, none⟩ = some (.slice (some ⟨w.heap.size, 0, none⟩) k 3) := by
      rw [Lib.cell_of_heap hTB]
      simp [tabC, List.getElem?_append_right, hTl]
    have bT : ∀ b, b < 256 → wr.cell? ⟨w.heap.size + 1, b, none⟩ = T[b]? := by
      intro b hb
      rw [Lib.cell_of_heap hTB]
      simp [tabC, List.getElem?_append_left, hTl, hb]
    have gc : ∀ j (hj : j < 3), wr.cell? ⟨w.heap.size, j, none⟩ = some (cur[j]'(by omega)) := by
      intro j hj
      rw [Lib.cell_of_heap hcb]
      exact Array.getElem?_eq_getElem (by omega)
    have gf : ∀ j, wr.frozen? ⟨w.heap.size, j, none⟩ = false := fun j => Lib.frozen_of_heap hcb j
    have bf : ∀ j, wr.frozen? ⟨w.heap.size + 1, j, none⟩ = false := fun j => Lib.frozen_of_heap hTB j
    have lt0 : w.heap.size < wr.heap.size := block_lt' hcb
    have lt1 : w.heap.size + 1 < wr.heap.size := block_lt' hTB
    have k0 : k = 0 ∨ k = 1 ∨ k = 2 ∨ k = 3 := by omega
    rcases k0 with rfl | rfl | rfl | rfl
    · obtain rfl := (show _ = Value.int .i64 4 from hi)
      have cv := conv1 wr wr.heap.size rfl 13 13 rfl
      have x13 : ∀ h, ((⟨#[13]⟩ : ByteArray)[0]'h).toNat = 13 := fun _ => rfl
      have b13 : wr.cell? ⟨w.heap.size + 1, 13, none⟩ = some (.slice none 0 0) := (bT 13 (by decide)).trans (hT1 13 (by decide) (by decide))
      have gk := gc 0 (by decide)
      have gkf := gf 0
      have bf13 := bf 13
      have bf256 := bf 256
      clear bT gc gf bf
      go_wp2
      refine ⟨⟨1, by decide, rfl, tab_step (k := 0) (by decide) (by omega) hTK _ _ _ _ _, below_step hB (Nat.le_refl _) (by omega) _ _ _ _ _ _ (by omega)⟩, by decide⟩
    · obtain rfl := (show _ = Value.int .i64 2 from hi)
      have cv := conv1 wr wr.heap.size rfl 10 10 rfl
      have x13 : ∀ h, ((⟨#[10]⟩ : ByteArray)[0]'h).toNat = 10 := fun _ => rfl
      have b13 : wr.cell? ⟨w.heap.size + 1, 10, none⟩ = some (.slice none 0 0) := (bT 10 (by decide)).trans (hT1 10 (by decide) (by decide))
      have gk := gc 1 (by decide)
      have gkf := gf 1
      have bf13 := bf 10
      have bf256 := bf 256
      clear bT gc gf bf
      go_wp2
      refine ⟨⟨2, by decide, rfl, tab_step (k := 1) (by decide) (by omega) hTK _ _ _ _ _, below_step hB (Nat.le_refl _) (by omega) _ _ _ _ _ _ (by omega)⟩, by decide⟩
    · obtain rfl := (show _ = Value.int .i64 0 from hi)
      have cv := conv1 wr wr.heap.size rfl 9 9 rfl
      have x13 : ∀ h, ((⟨#[9]⟩ : ByteArray)[0]'h).toNat = 9 := fun _ => rfl
      have b13 : wr.cell? ⟨w.heap.size + 1, 9, none⟩ = some (.slice none 0 0) := (bT 9 (by decide)).trans (hT1 9 (by decide) (by decide))
      have gk := gc 2 (by decide)
      have gkf := gf 2
      have bf13 := bf 9
      have bf256 := bf 256
      clear bT gc gf bf
      go_wp2
      refine ⟨⟨3, by decide, rfl, tab_step (k := 2) (by decide) (by omega) hTK _ _ _ _ _, below_step hB (Nat.le_refl _) (by omega) _ _ _ _ _ _ (by omega)⟩, by decide⟩
    · obtain rfl := (show _ = Value.int .i64 (-2) from hi)
      clear bT gc gf bf
      go_wp2
      go_ret
      exact ⟨rfl, hTK, hB⟩
end Go.Proofs.YtkkcmobnhiiacaaGreatDoor

/-! strings.Replacer: the table is built once, walked. No conditions. -/
namespace Go.Proofs.YtkkcmobnhiiacaaGreatDoor
open Go.RowKit

theorem tab_keep {k B Gr : Nat} {w w' : World} (hT : TabK k w B Gr) (h1 : w'.heap[B]? = w.heap[B]?) (h2 : w'.heap[Gr]? = w.heap[Gr]?) : TabK k w' B Gr := by
  obtain ⟨T, a, b, c, d, cur, e, f, g⟩ := hT
  exact ⟨T, a, h1.trans b, c, d, cur, e, h2.trans f, g⟩
theorem tab_lt {k B Gr : Nat} {w : World} (hT : TabK k w B Gr) : B < w.heap.size ∧ Gr < w.heap.size := by
  obtain ⟨T, a, b, c, d, cur, e, f, g⟩ := hT
  exact ⟨block_lt' b, block_lt' f⟩
/-- A Replacer in block R: done, the lock, what was built, what it is built of. -/
def RepAt (w : World) (R : Nat) (d l : Int) (c3 c4 : Value) : Prop := w.heap[R]? = some (.cells #[.int .u32 d, .int .i32 l, .int .u32 0, c3, c4] 78 (0, 0))
/-- The three signs and what stands for each. -/
structure Olds (w : World) (G : Nat) : Prop where
  lt : G < w.heap.size
  h0 : w.cell? ⟨G, 0, none⟩ = some (vstr [9])
  h1 : w.cell? ⟨G, 1, none⟩ = some (vstr [])
  h2 : w.cell? ⟨G, 2, none⟩ = some (vstr [10])
  h3 : w.cell? ⟨G, 3, none⟩ = some (vstr [])
  h4 : w.cell? ⟨G, 4, none⟩ = some (vstr [13])
  h5 : w.cell? ⟨G, 5, none⟩ = some (vstr [])
theorem Olds.keep {w w' : World} {G : Nat} (h : Olds w G) (hs : w.heap.size ≤ w'.heap.size) (hk : w'.heap[G]? = w.heap[G]?) : Olds w' G := by
  have e : ∀ j, w'.cell? ⟨G, j, none⟩ = w.cell? ⟨G, j, none⟩ := fun j => World.cell?_of_block (w := w) (w' := w') (a := ⟨G, j, none⟩) hk
  exact ⟨Nat.lt_of_lt_of_le h.lt hs, (e 0).trans h.h0, (e 1).trans h.h1, (e 2).trans h.h2, (e 3).trans h.h3, (e 4).trans h.h4, (e 5).trans h.h5⟩
theorem rep_lt {w : World} {R : Nat} {d l : Int} {c3 c4 : Value} (h : RepAt w R d l c3 c4) : R < w.heap.size := block_lt' h
set_option maxHeartbeats 4000000 in
set_option maxRecDepth 100000 in
theorem once_run (R G cap : Nat) (d l : Int) (c3 : Value) (w : World) (hr : RepAt w R d l c3 (.slice (some ⟨G, 0, none⟩) 6 cap)) (hO : Olds w G) (n : Nat) (hn : n ≤ R) :
    Calls Tryz.prog 40 #[.pointer (some ⟨R, 0, none⟩)] w fun e w' => e = .returned (.tuple #[]) ∧
      RepAt w' R d l (.iface 101 (.pointer (some ⟨w.heap.size + 1, 0, none⟩))) (.slice none 0 0) ∧ TabK 3 w' (w.heap.size + 1) w.heap.size ∧ Below n w w' := by
  have hR := rep_lt hr
  go_enter Tryz.func40, Tryz.ntmps40
  go_wp2_with (go_at_call 47; refine (build_run R G cap _ _ _ _ (0, 0) #[] w hr hO.lt hO.h0 hO.h1 hO.h2 hO.h3 hO.h4 hO.h5).mono ?_)
  rintro e w1 ⟨rfl, hT, hB⟩
  have hr1 : RepAt w1 R d l c3 (.slice (some ⟨G, 0, none⟩) 6 cap) := (hB.block R hR).trans hr
  have k3 : w1.cell? ⟨R, 3, none⟩ = some c3 := by rw [Lib.cell_of_heap hr1]; rfl
  have k4 : w1.cell? ⟨R, 4, none⟩ = some (.slice (some ⟨G, 0, none⟩) 6 cap) := by rw [Lib.cell_of_heap hr1]; rfl
  have f3 : w1.frozen? ⟨R, 3, none⟩ = false := Lib.frozen_of_heap hr1 3
  have f4 : w1.frozen? ⟨R, 4, none⟩ = false := Lib.frozen_of_heap hr1 4
  go_wp2
  go_end0
  have e1 := setCell_at (setCell_at hr1 3 (.iface 101 (.pointer (some ⟨w.heap.size + 1, 0, none⟩)))) 4 (.slice none 0 0)
  refine ⟨rfl, e1, tab_keep hT ?_ ?_, ?_⟩
  · rw [Below.heap_setCell _ _ _ _ (by simp; omega), Below.heap_setCell _ _ _ _ (by simp; omega)]
  · rw [Below.heap_setCell _ _ _ _ (by simp; omega), Below.heap_setCell _ _ _ _ (by simp; omega)]
  · exact Below.setCell (Below.setCell (hB.mono (by omega)) hn _) hn _
set_option maxHeartbeats 4000000 in
set_option maxRecDepth 100000 in
theorem slow_run (R G cap : Nat) (c3 : Value) (w : World) (hr : RepAt w R 0 0 c3 (.slice (some ⟨G, 0, none⟩) 6 cap)) (hO : Olds w G) (hGR : ¬ G = R) (n : Nat) (hn : n ≤ R) :
    Calls Tryz.prog 46 #[.pointer (some ⟨R, 0, none⟩), .func (.func 40) #[.pointer (some ⟨R, 0, none⟩)] #[]] w fun e w' => e = .returned (.tuple #[]) ∧
      RepAt w' R 1 0 (.iface 101 (.pointer (some ⟨w.heap.size + 1, 0, none⟩))) (.slice none 0 0) ∧ TabK 3 w' (w.heap.size + 1) w.heap.size ∧ Below n w w' := by
  have hR := rep_lt hr
  have k1 : w.cell? ⟨R, 1, none⟩ = some (.int .i32 0) := by rw [Lib.cell_of_heap hr]; rfl
  have f1 : w.frozen? ⟨R, 1, none⟩ = false := Lib.frozen_of_heap hr 1
  have hr1 : RepAt (w.setCell ⟨R, 1, none⟩ (.int .i32 1)) R 0 1 c3 (.slice (some ⟨G, 0, none⟩) 6 cap) := setCell_at hr 1 _
  have hO1 : Olds (w.setCell ⟨R, 1, none⟩ (.int .i32 1)) G := hO.keep (by simp [World.setCell]) (Below.heap_setCell _ _ _ _ (by simpa using hGR))
  have k0 : (w.setCell ⟨R, 1, none⟩ (.int .i32 1)).cell? ⟨R, 0, none⟩ = some (.int .u32 0) := by rw [Lib.cell_of_heap hr1]; rfl
  have hl := run_call_load (P := Tryz.prog) Tryz.func51 (by kernel_rfl) (by kernel_rfl) (by kernel_rfl) .u32 (by kernel_rfl) (w := w.setCell ⟨R, 1, none⟩ (.int .i32 1)) (a := ⟨R, 0, none⟩) (x := 0) k0
  have hsz : (w.setCell ⟨R, 1, none⟩ (.int .i32 1)).heap.size = w.heap.size := by simp [World.setCell]
  have hnot : ∀ (x : Bool) (w : World), (Op.unary .not (.bool x)).run Tryz.prog w = .ok (.bool (!x)) w := fun _ _ => rfl
  have hon := once_run R G cap 0 1 c3 _ hr1 hO1 n hn
  rw [hsz] at hon
  have hb1 : Below n w (w.setCell ⟨R, 1, none⟩ (.int .i32 1)) := Below.setCell (Below.refl _ _) hn _
  go_enter_defers Tryz.func46, Tryz.ntmps46
  go_wp2_with (first | (go_at_call 52; refine (rp_lock ⟨R, 1, none⟩ _ (by go_simp) (by go_simp)).mono ?_; rintro e w' ⟨rfl, rfl⟩) | (go_at_call 40; refine hon.mono ?_) | (go_at_call 45; go_in))
  rintro e w2 ⟨rfl, hr2, hT2, hB2⟩
  go_wp2
  have k20 : w2.cell? ⟨R, 0, none⟩ = some (.int .u32 0) := by rw [Lib.cell_of_heap hr2]; rfl
  have f20 : w2.frozen? ⟨R, 0, none⟩ = false := Lib.frozen_of_heap hr2 0
  have hr3 : RepAt (w2.drew.setCell ⟨R, 0, none⟩ (.int .u32 1)) R 1 1 (.iface 101 (.pointer (some ⟨w.heap.size + 1, 0, none⟩))) (.slice none 0 0) := setCell_at (w := w2.drew) hr2 0 _
  have k31 : (w2.drew.setCell ⟨R, 0, none⟩ (.int .u32 1)).cell? ⟨R, 1, none⟩ = some (.int .i32 1) := by rw [Lib.cell_of_heap hr3]; rfl
  have f31 : (w2.drew.setCell ⟨R, 0, none⟩ (.int .u32 1)).frozen? ⟨R, 1, none⟩ = false := Lib.frozen_of_heap hr3 1
  refine leaves_cons (f := 54) (args := #[.pointer (some ⟨R, 0, none⟩), .bool true]) (by simp) (by simp [go_sem]) ?_
  refine (rp_store ⟨R, 0, none⟩ (.int .u32 0) .returning _ k20 f20).mono ?_
  rintro e u' w3 ⟨rfl, rfl, rfl⟩
  refine leaves_cons (f := 53) (args := #[.pointer (some ⟨R, 1, none⟩)]) (by simp [settle]) (by simp [go_sem]) ?_
  refine (rp_unlock ⟨R, 1, none⟩ _ _ k31 f31).mono ?_
  rintro e u' w4 ⟨rfl, rfl, rfl⟩
  have e1 : ∀ b, ¬ b = R → ((w2.drew.setCell ⟨R, 0, none⟩ (.int .u32 1)).setCell ⟨R, 1, none⟩ (.int .i32 0)).heap[b]? = w2.heap[b]? := fun b hb => by
    rw [Below.heap_setCell _ _ _ _ (by simpa using hb), Below.heap_setCell _ _ _ _ (by simpa using hb)]
    rfl
  have fin : RepAt ((w2.drew.setCell ⟨R, 0, none⟩ (.int .u32 1)).setCell ⟨R, 1, none⟩ (.int .i32 0)) R 1 0 (.iface 101 (.pointer (some ⟨w.heap.size + 1, 0, none⟩))) (.slice none 0 0) ∧
      TabK 3 ((w2.drew.setCell ⟨R, 0, none⟩ (.int .u32 1)).setCell ⟨R, 1, none⟩ (.int .i32 0)) (w.heap.size + 1) w.heap.size ∧ Below n w ((w2.drew.setCell ⟨R, 0, none⟩ (.int .u32 1)).setCell ⟨R, 1, none⟩ (.int .i32 0)) :=
    ⟨setCell_at hr3 1 _, tab_keep hT2 (e1 _ (by omega)) (e1 _ (by omega)), Below.setCell (Below.setCell (hb1.trans hB2).drew hn _) hn _⟩
  simp only [Leaves, settle, results, Tryz.results46]
  simpa using fin
set_option maxHeartbeats 4000000 in
set_option maxRecDepth 100000 in
theorem do_run (R G cap : Nat) (c3 : Value) (w : World) (hr : RepAt w R 0 0 c3 (.slice (some ⟨G, 0, none⟩) 6 cap)) (hO : Olds w G) (hGR : ¬ G = R) (n : Nat) (hn : n ≤ R) :
    Calls Tryz.prog 39 #[.pointer (some ⟨R, 0, none⟩), .func (.func 40) #[.pointer (some ⟨R, 0, none⟩)] #[]] w fun e w' => e = .returned (.tuple #[]) ∧
      RepAt w' R 1 0 (.iface 101 (.pointer (some ⟨w.heap.size + 1, 0, none⟩))) (.slice none 0 0) ∧ TabK 3 w' (w.heap.size + 1) w.heap.size ∧ Below n w w' := by
  have k0 : w.cell? ⟨R, 0, none⟩ = some (.int .u32 0) := by rw [Lib.cell_of_heap hr]; rfl
  have hl := run_call_load (P := Tryz.prog) Tryz.func51 (by kernel_rfl) (by kernel_rfl) (by kernel_rfl) .u32 (by kernel_rfl) (w := w) (a := ⟨R, 0, none⟩) (x := 0) k0
  have hnot : ∀ (x : Bool) (w : World), (Op.unary .not (.bool x)).run Tryz.prog w = .ok (.bool (!x)) w := fun _ _ => rfl
  go_enter Tryz.func39, Tryz.ntmps39
  go_wp2_with (first | (go_at_call 46; refine (slow_run R G cap c3 w hr hO hGR n hn).mono ?_) | (go_at_call 45; go_in))
  rintro e w2 ⟨rfl, h⟩
  go_wp2
  go_end0
  exact ⟨rfl, h⟩
end Go.Proofs.YtkkcmobnhiiacaaGreatDoor

/-! strings.Replacer: a text without the three signs, walked. No conditions. -/
namespace Go.Proofs.YtkkcmobnhiiacaaGreatDoor
open Go.RowKit

def nd (l : List UInt8) : Nat := (l.filter fun c => !dropC c).length
theorem nd_le (l : List UInt8) : nd l ≤ l.length := List.length_filter_le _ _
theorem nd_kept : ∀ l : List UInt8, nd l + (l.filter dropC).length = l.length
  | [] => rfl
  | c :: l => by
    have ih := nd_kept l
    unfold nd at *
    cases h : dropC c <;> simp [h] <;> omega
theorem nd_snoc (l : List UInt8) (c : UInt8) : nd (l ++ [c]) = nd l + if dropC c = true then 0 else 1 := by
  unfold nd
  rw [List.filter_append, List.length_append]
  cases h : dropC c <;> simp [h]
theorem take_snoc' {l : List UInt8} {i : Nat} {c : UInt8} (h : l[i]? = some c) : l.take (i + 1) = l.take i ++ [c] := by
  rw [List.take_add_one, h]; rfl
/-- How often the first k signs stand there. -/
def ndk (l : List UInt8) : Nat → Nat
  | 0 => 0
  | k + 1 => ndk l k + l.count (sgnR k)
theorem ndk_3 (l : List UInt8) : ndk l 3 = nd l := by
  unfold nd
  simp only [ndk, Nat.zero_add]
  induction l with
  | nil => rfl
  | cons c l ih =>
    simp only [List.count_cons, List.filter_cons]
    by_cases h0 : c = sgnR 0
    · subst h0; rw [if_pos (by decide : (!dropC (sgnR 0)) = true)]; simp [show (sgnR 0 == sgnR 1) = false from rfl, show (sgnR 0 == sgnR 2) = false from rfl]; omega
    · by_cases h1 : c = sgnR 1
      · subst h1; rw [if_pos (by decide : (!dropC (sgnR 1)) = true)]; simp [show (sgnR 1 == sgnR 0) = false from rfl, show (sgnR 1 == sgnR 2) = false from rfl]; omega
      · by_cases h2 : c = sgnR 2
        · subst h2; rw [if_pos (by decide : (!dropC (sgnR 2)) = true)]; simp [show (sgnR 2 == sgnR 0) = false from rfl, show (sgnR 2 == sgnR 1) = false from rfl]; omega
        · have hd : (!dropC c) = false := by
            simp only [dropC, Bool.not_not, Bool.or_eq_false_iff, decide_eq_false_iff_not]
            exact ⟨⟨fun e => h2 e, fun e => h1 e⟩, fun e => h0 e⟩
          rw [hd]
          have e0 : (c == sgnR 0) = false := by simpa using h0
          have e1 : (c == sgnR 1) = false := by simpa using h1
          have e2 : (c == sgnR 2) = false := by simpa using h2
          simp only [e0, e1, e2, Bool.false_eq_true, if_false]
          omega
theorem ndk_le (l : List UInt8) : ∀ k, k ≤ 3 → ndk l k ≤ nd l := by
  intro k hk
  rw [← ndk_3]
  have : k = 0 ∨ k = 1 ∨ k = 2 ∨ k = 3 := by omega
  rcases this with rfl | rfl | rfl | rfl <;> simp only [ndk] <;> omega
set_option maxHeartbeats 1000000 in
set_option maxRecDepth 100000 in
/-- strings.Count at one byte. -/
theorem count_one (s : ByteArray) (c : UInt8) (w : World) :
    Calls Tryz.prog 120 #[.string s, .string ⟨#[c]⟩] w fun e w' => e = .returned (.int .i64 (s.data.toList.count c)) ∧ w' = w := by
  have e0 : ∀ h, ((⟨#[c]⟩ : ByteArray)[0]'h) = c := fun _ => rfl
  go_enter Tryz.func120, Tryz.ntmps120
  go_wp2
  rw [run_callFunc_extern Tryz.func122 (by kernel_rfl) (by kernel_rfl) (by kernel_rfl) (e := Extern.BytealgCount.count) (by kernel_rfl), Lib.run_countString]
  simp only [Result.andThen]
  rw [Oper.upon_value]
  go_wp2
  go_ret
  refine ⟨?_, rfl⟩
  simp [Lib.countByte]
theorem dropC_sgn : ∀ k, k < 3 → dropC (sgnR k) = false := by decide
theorem dropC_false {c : UInt8} (h : dropC c = false) : ∃ k, k < 3 ∧ c = sgnR k := by
  have : c = 9 ∨ c = 10 ∨ c = 13 := by
    simp only [dropC, Bool.not_eq_false', Bool.or_eq_true, decide_eq_true_eq] at h
    rcases h with (h | h) | h
    · exact .inl h
    · exact .inr (.inl h)
    · exact .inr (.inr h)
  rcases this with h | h | h
  · exact ⟨2, by decide, h⟩
  · exact ⟨1, by decide, h⟩
  · exact ⟨0, by decide, h⟩
theorem tab_cell {w : World} {B Gr : Nat} (hT : TabK 3 w B Gr) : (∀ c : UInt8, dropC c = true → w.cell? ⟨B, c.toNat, none⟩ = some (.slice none 0 0)) ∧
    (∀ c : UInt8, dropC c = false → ∃ a n, w.cell? ⟨B, c.toNat, none⟩ = some (.slice (some a) 0 n)) ∧ w.cell? ⟨B, 256, none⟩ = some (.slice (some ⟨Gr, 0, none⟩) 3 3) ∧ ∀ j, j < 3 → w.cell? ⟨Gr, j, none⟩ = some (vstr [sgnR j]) := by
  obtain ⟨T, hTl, hTB, hT1, hT2, cur, hcs, hcb, hcv⟩ := hT
  have bT : ∀ b, b < 256 → w.cell? ⟨B, b, none⟩ = T[b]? := by
    intro b hb
    rw [Lib.cell_of_heap hTB]
    simp [tabC, List.getElem?_append_left, hTl, hb]
  refine ⟨fun c hc => (bT _ c.toNat_lt).trans (hT1 _ c.toNat_lt fun j hj e => ?_), fun c hc => ?_, ?_, fun j hj => ?_⟩
  · rw [UInt8.toNat_inj.1 e, dropC_sgn j hj] at hc
    cases hc
  · obtain ⟨k, hk, rfl⟩ := dropC_false hc
    obtain ⟨a, n, h⟩ := hT2 k hk
    exact ⟨a, n, (bT _ (sgnR k).toNat_lt).trans h⟩
  · rw [Lib.cell_of_heap hTB]
    simp [tabC, List.getElem?_append_right, hTl]
  · rw [Lib.cell_of_heap hcb]
    exact hcv j hj
theorem filter_all {l : List UInt8} (h : nd l = 0) : l.filter dropC = l := by
  have := nd_kept l
  exact (List.filter_sublist (p := dropC) (l := l)).eq_of_length (by omega)
theorem make56 (w : World) (m : Nat) (hm : m ≤ 140737488355328) : ∃ Z : Array Value, Z.size = m ∧ (Instr.makeSlice 55 (.int .i64 m) (.int .i64 m)).run Tryz.prog w = .ok (.slice (some ⟨w.heap.size, 0, none⟩) m m) (w.alloc (.cells Z 5)) := by
  have h : (Tryz.prog.info? 5).map (fun i => (i.zero, i.size, i.bytes)) = some (some (.int .u8 0), 1, 1) := by kernel_rfl
  obtain ⟨i, hi, e⟩ := Option.map_eq_some_iff.1 h
  simp only [Prod.mk.injEq] at e
  have := run_make (P := Tryz.prog) w 55 5 i (.int .u8 0) Tryz.underlying55 hi e.1 .i64 .i64 m m (by omega) (by omega) (by rw [e.2.2]; omega) (by omega)
  rw [e.2.1] at this
  exact ⟨madeCells (Value.int .u8 0).cells (Int.toNat (m : Int) * 1), by rw [size_madeCells]; omega, by simpa using this⟩
/-- The new row: m cells, the first of them the bytes l. -/
def Since3 (D m : Nat) (l : List UInt8) (w : World) : Prop := ∃ cur : Array Value, cur.size = m ∧ w.heap[D]? = some (.cells cur 5 (0, 0)) ∧ ∀ (t : Nat) (x : UInt8), l[t]? = some x → cur[t]? = some (.int .u8 x.toNat)
theorem conv_row (w : World) (D m : Nat) (cur : Array Value) (hcb : w.heap[D]? = some (.cells cur 5 (0, 0))) (l : List UInt8) (hl : l.length = m) (h : ∀ (t : Nat) (x : UInt8), l[t]? = some x → cur[t]? = some (.int .u8 x.toNat)) :
    (convert 55 9 (.slice (some ⟨D, 0, none⟩) m m)).run Tryz.prog w = .ok (.string ⟨l.toArray⟩) w := by
  have h1 := run_convert_bytes_arg (P := Tryz.prog) w 55 5 Tryz.underlying55 Tryz.underlying5 D 0 m m (l.map fun x => (x.toNat : Int)) (by simpa using hl) (fun i hi => by
    rw [Nat.zero_add, Lib.cell_of_heap hcb]
    have hx : l[i]? = some (l[i]'(by omega)) := List.getElem?_eq_getElem _
    rw [h i _ hx]
    simp [List.getD, hx]) 9 Tryz.underlying9
  rw [h1]
  simp [strOfNums, Function.comp_def]
set_option maxHeartbeats 8000000 in
set_option maxRecDepth 100000 in
theorem bsr_run (B Gr : Nat) (s : ByteArray) (w : World) (hT : TabK 3 w B Gr) (hs : s.size ≤ 140737488355328) :
    Calls Tryz.prog 118 #[.pointer (some ⟨B, 0, none⟩), .string s] w fun e w' => e = .returned (.string ⟨(s.data.toList.filter dropC).toArray⟩) ∧ Below w.heap.size w w' := by
  obtain ⟨hk, hd, h256, hg⟩ := tab_cell hT
  have HK : Aside (∀ c : UInt8, dropC c = true → w.cell? ⟨B, c.toNat, none⟩ = some (.slice none 0 0)) := hk
  have HD : Aside (∀ c : UInt8, dropC c = false → ∃ a n, w.cell? ⟨B, c.toNat, none⟩ = some (.slice (some a) 0 n)) := hd
  have HG : Aside (∀ j, j < 3 → w.cell? ⟨Gr, j, none⟩ = some (vstr [sgnR j])) := hg
  clear hk hd hg
  have q1 : ∀ (a : Option Addr) (l c : Nat) (w : World), (binOp .neq 55 (.slice a l c) (.slice none 0 0)).run Tryz.prog w = .ok (.bool (!a.isNone)) w := fun a l c w => Go.run_neq_slice_nil (P := Tryz.prog) (w := w) 55 5 a l c Tryz.underlying55
  go_enter Tryz.func118, Tryz.ntmps118
  have hBlt := (tab_lt hT).1
  have hGlt := (tab_lt hT).2
  have hL : s.data.toList.length = s.size := by rw [Array.length_toList]; rfl
  by_cases h24 : (24 : Int) ≤ (s.size : Int)
  · go_wp2
    go_loopg [5, 6, 32] 3 (fun g v5 v6 v32 wx => ∃ k m : Nat, k + g = 3 ∧ m + ndk s.data.toList k = s.size ∧ v5 = .int .i64 m ∧ v6 = .bool (decide (m < s.size)) ∧ v32 = .int .i64 k ∧ Below w.heap.size w wx)
    case atStart => exact ⟨0, s.size, by omega, by simp [ndk], rfl, by simp, rfl, Below.refl _ _⟩
    case round =>
      obtain ⟨k, m, hkg, hm, rfl, rfl, rfl, hB⟩ := hrel
      cases gk with
      | zero =>
        obtain rfl : k = 3 := by omega
        rw [ndk_3] at hm
        have hkl := nd_kept s.data.toList
        rw [hL] at hkl
        have hiz : ¬ ((s.size : Int) < (s.size : Int)) := by omega
        by_cases hz : m < s.size
        · have hdz : decide (m < s.size) = true := decide_eq_true hz
          rw [hdz]
          obtain ⟨Z, hZs, hmk⟩ := make56 wr m (by omega)
          have hzl := heap_alloc_last wr (.cells Z 5)
          have hBa := hB.alloc hB.size (.cells Z 5)
          have hDB := hB.size
          clear hB
          obtain ⟨D, hD⟩ : ∃ D, D = wr.heap.size := ⟨_, rfl⟩
          rw [← hD] at hmk hzl hDB
          clear hD
          go_wp2
          go_loopg [13, 14] s.size (fun g v13 v14 wy => ∃ i : Nat, i + g = s.size ∧ v14 = .int .i64 i ∧ v13 = .int .i64 ((s.data.toList.take i).filter dropC).length ∧ Below w.heap.size w wy ∧ Since3 D m ((s.data.toList.take i).filter dropC) wy)
          case atStart => exact ⟨0, by omega, rfl, rfl, hBa, Z, hZs, hzl, fun t x h => by simp at h⟩
          case round =>
            obtain ⟨k, hkg, rfl, rfl, hB3, cur, hcs, hcb, hcv⟩ := hrel
            obtain ⟨j, hj⟩ : ∃ j, j = ((s.data.toList.take k).filter dropC).length := ⟨_, rfl⟩
            have hjm : ∀ n, ((s.data.toList.take n).filter dropC).length ≤ m := by
              intro n
              have := (List.Sublist.filter dropC (List.take_sublist n s.data.toList)).length_le
              omega
            rw [← hj]
            cases gk with
            | zero =>
              obtain rfl : k = s.size := by omega
              rw [List.take_of_length_le (by rw [hL]; exact Nat.le_refl _)] at hcv hj
              have hcv2 := conv_row wr D m cur hcb (s.data.toList.filter dropC) (by omega) hcv
              go_wp2
              go_ret
              exact ⟨rfl, hB3⟩
            | succ g =>
              have hk : k < s.size := by omega
              have hkz : (k : Int) < (s.size : Int) := by omega
              obtain ⟨x, hx⟩ : ∃ x : UInt8, s[k]'hk = x := ⟨_, rfl⟩
              have hxl : s.data.toList[k]? = some x := by rw [← hx]; exact Lib.data_getElem? s k hk
              have hx256 : (x.toNat : Int) < 256 := by have := x.toNat_lt; omega
              have hfs : (s.data.toList.take (k + 1)).filter dropC = (s.data.toList.take k).filter dropC ++ [x].filter dropC := by
                rw [take_snoc' hxl, List.filter_append]
              have hjn := hjm (k + 1)
              have hjo := hjm k
              have HF : Aside ((s.data.toList.take (k + 1)).filter dropC = (s.data.toList.take k).filter dropC ++ [x].filter dropC) := hfs
              have HV : Aside (∀ (t : Nat) (y : UInt8), ((s.data.toList.take k).filter dropC)[t]? = some y → cur[t]? = some (.int .u8 y.toNat)) := hcv
              have HJ : Aside (j = ((s.data.toList.take k).filter dropC).length) := hj
              clear hxl hjm
              cases hc : dropC x
              · rw [hfs] at hjn
                clear hfs hcv
                obtain ⟨a, n, hcell⟩ := HD.out x hc
                have hcell := (hB3.cell (p := ⟨B, x.toNat, none⟩) hBlt).trans hcell
                have hcp : ∀ (W : World) (d : Option Addr) (dLen dCap : Nat), (Builtin.copy_ #[55, 55] 3 #[.slice d dLen dCap, .slice (some a) 0 n]).run Tryz.prog W = .ok (goInt 0) W := fun W d dLen dCap => run_copy_none W _ _ _ 5 d (some a) dLen dCap 0 n Tryz.underlying55 (by kernel_rfl) (by simp)
                rw [← hj] at hjo
                clear hj
                have e : (s.data.toList.take (k + 1)).filter dropC = (s.data.toList.take k).filter dropC := by
                  rw [HF.out, List.filter_cons_of_neg (by rw [hc]; decide), List.filter_nil, List.append_nil]
                have HE : Aside ((s.data.toList.take (k + 1)).filter dropC = (s.data.toList.take k).filter dropC) := e
                clear e hjn
                rcases Nat.lt_or_eq_of_le hjo with hjlt | hjeq
                · have hne : ¬ (j = m) := by omega
                  have hne' : ¬ (m = j) := by omega
                  go_wp2
                  go_region
                  all_goals
                    go_wp2
                    go_roundg g
                    case measure => omega
                    case rel =>
                      refine ⟨k + 1, by omega, by go_num, ?_, hB3.drew, cur, hcs, hcb, ?_⟩
                      · rw [HE.out, ← HJ.out]
                      · rw [HE.out]
                        exact HV.out
                · obtain rfl : m = j := hjeq.symm
                  go_wp2
                  go_region
                  all_goals
                    go_wp2
                    go_roundg g
                    case measure => omega
                    case rel =>
                      refine ⟨k + 1, by omega, by go_num, ?_, hB3.drew, cur, hcs, hcb, ?_⟩
                      · rw [HE.out, ← HJ.out]
                      · rw [HE.out]
                        exact HV.out
              · rw [hfs, List.length_append, List.filter_cons_of_pos hc, List.filter_nil, List.length_singleton, ← hj] at hjn
                clear hfs hcv
                have hcell := (hB3.cell (p := ⟨B, x.toNat, none⟩) hBlt).trans (HK.out x hc)
                have hjlt : j < m := by omega
                obtain ⟨v, hcj⟩ : ∃ v, wr.cell? ⟨D, j, none⟩ = some v := ⟨cur[j]'(by omega), by
                  rw [Lib.cell_of_heap hcb]
                  exact Array.getElem?_eq_getElem (by omega)⟩
                have hfj : wr.frozen? ⟨D, j, none⟩ = false := Lib.frozen_of_heap hcb j
                clear hj hjo
                go_wp2
                go_roundg g
                case measure => omega
                case rel =>
                  refine ⟨k + 1, by omega, by go_num, ?_, hB3.setCell (p := ⟨D, j, none⟩) hDB _, cur.setIfInBounds j (.int .u8 x.toNat), by simpa using hcs, setCell_at hcb j _, fun t y hy => ?_⟩
                  · rw [HF.out, List.length_append, List.filter_cons_of_pos hc, ← HJ.out]
                    go_num
                  · rw [HF.out, List.filter_cons_of_pos hc] at hy
                    by_cases e : t = j
                    · subst e
                      rw [List.getElem?_append_right (by rw [← HJ.out]; exact Nat.le_refl _), ← HJ.out, Nat.sub_self] at hy
                      simp at hy
                      subst hy
                      rw [Array.getElem?_setIfInBounds_self_of_lt (by omega)]
                    · rw [Array.getElem?_setIfInBounds_ne (fun h => e h.symm)]
                      refine HV.out t y ?_
                      rcases Nat.lt_or_ge t ((s.data.toList.take k).filter dropC).length with h | h
                      · rwa [List.getElem?_append_left h] at hy
                      · rw [List.getElem?_append_right h] at hy
                        have : t - ((s.data.toList.take k).filter dropC).length ≠ 0 := by rw [← HJ.out] at h ⊢; omega
                        rw [List.getElem?_eq_none (by simp; omega)] at hy
                        cases hy
        · have hdz : decide (m < s.size) = false := decide_eq_false hz
          rw [hdz]
          go_wp2
          go_ret
          refine ⟨?_, hB⟩
          rw [filter_all (by omega)]
          rfl
      | succ g =>
        have hk3 : k < 3 := by omega
        have hkz : (k : Int) < 3 := by omega
        have hks : ndk s.data.toList (k + 1) = ndk s.data.toList k + s.data.toList.count (sgnR k) := rfl
        have hkn := ndk_le s.data.toList (k + 1) (by omega)
        have hnl := nd_le s.data.toList
        obtain ⟨C, hC⟩ : ∃ C, C = s.data.toList.count (sgnR k) := ⟨_, rfl⟩
        have hcn := count_one s (sgnR k) wr
        rw [← hC] at hks hcn
        have hrow := (hB.cell (p := ⟨Gr, k, none⟩) hGlt).trans (HG.out k hk3)
        obtain ⟨a, n, hcell⟩ := HD.out _ (dropC_sgn k hk3)
        have hcell := (hB.cell (p := ⟨B, (sgnR k).toNat, none⟩) hBlt).trans hcell
        have hx256 : ((sgnR k).toNat : Int) < 256 := by have := (sgnR k).toNat_lt; omega
        have xk : ∀ h, ((⟨#[sgnR k]⟩ : ByteArray)[0]'h) = sgnR k := fun _ => rfl
        have hrow2 : wr.cell? ⟨Gr, k, none⟩ = some (.string ⟨#[sgnR k]⟩) := hrow
        clear hrow
        by_cases h0 : C = 0
        · subst h0
          have HM0 : m + ndk s.data.toList (k + 1) = s.size := by omega
          have HM : Aside (m + ndk s.data.toList (k + 1) = s.size) := HM0
          generalize sgnR k = c at *
          clear HM0 hks hkn hnl hm hC
          go_wp2_with (go_at_call 120; refine hcn.mono ?_; rintro e w' ⟨rfl, rfl⟩)
          go_roundg g
          case measure => omega
          case rel => exact ⟨k + 1, m, by omega, HM.out, by go_num, rfl, by go_num, hB⟩
        · obtain ⟨m', rfl⟩ : ∃ m', m = m' + C := ⟨m - C, by omega⟩
          have HM0 : m' + ndk s.data.toList (k + 1) = s.size := by omega
          have HM : Aside (m' + ndk s.data.toList (k + 1) = s.size) := HM0
          have hlt : m' < s.size := by omega
          have hms : m' + C ≤ s.size := by omega
          generalize sgnR k = c at *
          clear HM0 hks hkn hnl hm hC
          go_wp2_with (go_at_call 120; refine hcn.mono ?_; rintro e w' ⟨rfl, rfl⟩)
          go_region
          all_goals
            go_wp2
            go_roundg g
            case measure => omega
            case rel => exact ⟨k + 1, m', by omega, HM.out, by go_num, by rw [decide_eq_true hlt], by go_num, hB.drew⟩
  · go_wp2
    go_loopg [5, 6, 10] s.size (fun g v5 v6 v10 wx => ∃ i m : Nat, i + g = s.size ∧ m + nd (s.data.toList.take i) = s.size ∧ v5 = .int .i64 m ∧ v6 = .bool (decide (m < s.size)) ∧ v10 = .int .i64 i ∧ Below w.heap.size w wx)
    case atStart => exact ⟨0, s.size, by omega, by simp [nd], rfl, by simp, rfl, Below.refl _ _⟩
    case round =>
      obtain ⟨i, m, hig, hm, rfl, rfl, rfl, hB⟩ := hrel
      cases gk with
      | zero =>
        obtain rfl : i = s.size := by omega
        rw [List.take_of_length_le (by rw [hL]; exact Nat.le_refl _)] at hm
        have hkl := nd_kept s.data.toList
        rw [hL] at hkl
        have hiz : ¬ ((s.size : Int) < (s.size : Int)) := by omega
        by_cases hz : m < s.size
        · have hdz : decide (m < s.size) = true := decide_eq_true hz
          rw [hdz]
          obtain ⟨Z, hZs, hmk⟩ := make56 wr m (by omega)
          have hzl := heap_alloc_last wr (.cells Z 5)
          have hBa := hB.alloc hB.size (.cells Z 5)
          have hDB := hB.size
          clear hB
          obtain ⟨D, hD⟩ : ∃ D, D = wr.heap.size := ⟨_, rfl⟩
          rw [← hD] at hmk hzl hDB
          clear hD
          go_wp2
          go_loopg [13, 14] s.size (fun g v13 v14 wy => ∃ i : Nat, i + g = s.size ∧ v14 = .int .i64 i ∧ v13 = .int .i64 ((s.data.toList.take i).filter dropC).length ∧ Below w.heap.size w wy ∧ Since3 D m ((s.data.toList.take i).filter dropC) wy)
          case atStart => exact ⟨0, by omega, rfl, rfl, hBa, Z, hZs, hzl, fun t x h => by simp at h⟩
          case round =>
            obtain ⟨k, hkg, rfl, rfl, hB3, cur, hcs, hcb, hcv⟩ := hrel
            obtain ⟨j, hj⟩ : ∃ j, j = ((s.data.toList.take k).filter dropC).length := ⟨_, rfl⟩
            have hjm : ∀ n, ((s.data.toList.take n).filter dropC).length ≤ m := by
              intro n
              have := (List.Sublist.filter dropC (List.take_sublist n s.data.toList)).length_le
              omega
            rw [← hj]
            cases gk with
            | zero =>
              obtain rfl : k = s.size := by omega
              rw [List.take_of_length_le (by rw [hL]; exact Nat.le_refl _)] at hcv hj
              have hcv2 := conv_row wr D m cur hcb (s.data.toList.filter dropC) (by omega) hcv
              go_wp2
              go_ret
              exact ⟨rfl, hB3⟩
            | succ g =>
              have hk : k < s.size := by omega
              have hkz : (k : Int) < (s.size : Int) := by omega
              obtain ⟨x, hx⟩ : ∃ x : UInt8, s[k]'hk = x := ⟨_, rfl⟩
              have hxl : s.data.toList[k]? = some x := by rw [← hx]; exact Lib.data_getElem? s k hk
              have hx256 : (x.toNat : Int) < 256 := by have := x.toNat_lt; omega
              have hfs : (s.data.toList.take (k + 1)).filter dropC = (s.data.toList.take k).filter dropC ++ [x].filter dropC := by
                rw [take_snoc' hxl, List.filter_append]
              have hjn := hjm (k + 1)
              have hjo := hjm k
              have HF : Aside ((s.data.toList.take (k + 1)).filter dropC = (s.data.toList.take k).filter dropC ++ [x].filter dropC) := hfs
              have HV : Aside (∀ (t : Nat) (y : UInt8), ((s.data.toList.take k).filter dropC)[t]? = some y → cur[t]? = some (.int .u8 y.toNat)) := hcv
              have HJ : Aside (j = ((s.data.toList.take k).filter dropC).length) := hj
              clear hxl hjm
              cases hc : dropC x
              · rw [hfs] at hjn
                clear hfs hcv
                obtain ⟨a, n, hcell⟩ := HD.out x hc
                have hcell := (hB3.cell (p := ⟨B, x.toNat, none⟩) hBlt).trans hcell
                have hcp : ∀ (W : World) (d : Option Addr) (dLen dCap : Nat), (Builtin.copy_ #[55, 55] 3 #[.slice d dLen dCap, .slice (some a) 0 n]).run Tryz.prog W = .ok (goInt 0) W := fun W d dLen dCap => run_copy_none W _ _ _ 5 d (some a) dLen dCap 0 n Tryz.underlying55 (by kernel_rfl) (by simp)
                rw [← hj] at hjo
                clear hj
                have e : (s.data.toList.take (k + 1)).filter dropC = (s.data.toList.take k).filter dropC := by
                  rw [HF.out, List.filter_cons_of_neg (by rw [hc]; decide), List.filter_nil, List.append_nil]
                have HE : Aside ((s.data.toList.take (k + 1)).filter dropC = (s.data.toList.take k).filter dropC) := e
                clear e hjn
                rcases Nat.lt_or_eq_of_le hjo with hjlt | hjeq
                · have hne : ¬ (j = m) := by omega
                  have hne' : ¬ (m = j) := by omega
                  go_wp2
                  go_region
                  all_goals
                    go_wp2
                    go_roundg g
                    case measure => omega
                    case rel =>
                      refine ⟨k + 1, by omega, by go_num, ?_, hB3.drew, cur, hcs, hcb, ?_⟩
                      · rw [HE.out, ← HJ.out]
                      · rw [HE.out]
                        exact HV.out
                · obtain rfl : m = j := hjeq.symm
                  go_wp2
                  go_region
                  all_goals
                    go_wp2
                    go_roundg g
                    case measure => omega
                    case rel =>
                      refine ⟨k + 1, by omega, by go_num, ?_, hB3.drew, cur, hcs, hcb, ?_⟩
                      · rw [HE.out, ← HJ.out]
                      · rw [HE.out]
                        exact HV.out
              · rw [hfs, List.length_append, List.filter_cons_of_pos hc, List.filter_nil, List.length_singleton, ← hj] at hjn
                clear hfs hcv
                have hcell := (hB3.cell (p := ⟨B, x.toNat, none⟩) hBlt).trans (HK.out x hc)
                have hjlt : j < m := by omega
                obtain ⟨v, hcj⟩ : ∃ v, wr.cell? ⟨D, j, none⟩ = some v := ⟨cur[j]'(by omega), by
                  rw [Lib.cell_of_heap hcb]
                  exact Array.getElem?_eq_getElem (by omega)⟩
                have hfj : wr.frozen? ⟨D, j, none⟩ = false := Lib.frozen_of_heap hcb j
                clear hj hjo
                go_wp2
                go_roundg g
                case measure => omega
                case rel =>
                  refine ⟨k + 1, by omega, by go_num, ?_, hB3.setCell (p := ⟨D, j, none⟩) hDB _, cur.setIfInBounds j (.int .u8 x.toNat), by simpa using hcs, setCell_at hcb j _, fun t y hy => ?_⟩
                  · rw [HF.out, List.length_append, List.filter_cons_of_pos hc, ← HJ.out]
                    go_num
                  · rw [HF.out, List.filter_cons_of_pos hc] at hy
                    by_cases e : t = j
                    · subst e
                      rw [List.getElem?_append_right (by rw [← HJ.out]; exact Nat.le_refl _), ← HJ.out, Nat.sub_self] at hy
                      simp at hy
                      subst hy
                      rw [Array.getElem?_setIfInBounds_self_of_lt (by omega)]
                    · rw [Array.getElem?_setIfInBounds_ne (fun h => e h.symm)]
                      refine HV.out t y ?_
                      rcases Nat.lt_or_ge t ((s.data.toList.take k).filter dropC).length with h | h
                      · rwa [List.getElem?_append_left h] at hy
                      · rw [List.getElem?_append_right h] at hy
                        have : t - ((s.data.toList.take k).filter dropC).length ≠ 0 := by rw [← HJ.out] at h ⊢; omega
                        rw [List.getElem?_eq_none (by simp; omega)] at hy
                        cases hy
        · have hdz : decide (m < s.size) = false := decide_eq_false hz
          rw [hdz]
          go_wp2
          go_ret
          refine ⟨?_, hB⟩
          rw [filter_all (by omega)]
          rfl
      | succ g =>
        have hi : i < s.size := by omega
        have hiz : (i : Int) < (s.size : Int) := by omega
        obtain ⟨x, hx⟩ : ∃ x : UInt8, s[i]'hi = x := ⟨_, rfl⟩
        have hxl : s.data.toList[i]? = some x := by rw [← hx]; exact Lib.data_getElem? s i hi
        have hx256 : (x.toNat : Int) < 256 := by have := x.toNat_lt; omega
        have hsn := nd_snoc (s.data.toList.take i) x
        rw [← take_snoc' hxl] at hsn
        have hle : nd (s.data.toList.take (i + 1)) ≤ i + 1 := Nat.le_trans (nd_le _) (by simp; omega)
        have Hx : Aside (s.data.toList[i]? = some x) := hxl
        clear hxl
        cases hc : dropC x
        · obtain ⟨a, n, hcell⟩ := HD.out x hc
          have hcell := (hB.cell (p := ⟨B, x.toNat, none⟩) hBlt).trans hcell
          rw [hc] at hsn
          simp only [Bool.false_eq_true, if_false] at hsn
          obtain ⟨m', rfl⟩ : ∃ m', m = m' + 1 := ⟨m - 1, by omega⟩
          have HM0 : m' + nd (s.data.toList.take (i + 1)) = s.size := by omega
          have HM : Aside (m' + nd (s.data.toList.take (i + 1)) = s.size) := HM0
          have hlt : m' < s.size := by omega
          clear hsn hle hm HM0
          go_wp2
          go_roundg g
          case measure => omega
          case rel => exact ⟨i + 1, m', by omega, HM.out, by go_num, by rw [decide_eq_true hlt], by go_num, hB⟩
        · have hcell := (hB.cell (p := ⟨B, x.toNat, none⟩) hBlt).trans (HK.out x hc)
          rw [hc] at hsn
          simp only [if_true, Nat.add_zero] at hsn
          have HM0 : m + nd (s.data.toList.take (i + 1)) = s.size := by omega
          have HM : Aside (m + nd (s.data.toList.take (i + 1)) = s.size) := HM0
          clear hsn hle hm HM0
          go_wp2
          go_roundg g
          case measure => omega
          case rel => exact ⟨i + 1, m, by omega, HM.out, rfl, rfl, by go_num, hB⟩
end Go.Proofs.YtkkcmobnhiiacaaGreatDoor

/-! url.Strip, walked. No conditions. -/
namespace Go.Proofs.YtkkcmobnhiiacaaGreatDoor
open Go.RowKit Go.Shelf

theorem wpList_append_eq {P : Program} {w : World} {ops : Array Oper} {rest : List Oper} {o : Oper} {a : Act} {Q : Exit → Act → World → Prop} (hgd : o.guard = none) (d s : Operand) (dT sT : TypeId)
    (ho : o.op = .call { callee := .builtin .append, args := #[d, s], argTypes := #[dT, sT] }) (v : Value) (w' : World) (hrun : (Builtin.append_ #[dT, sT] o.type #[a.eval d, a.eval s]).run P w = .ok v w')
    (h : wpList P ops Q rest (a.put o.dst v) w') : wpList P ops Q (o :: rest) a w := by
  refine wpList_plain hgd fun K hK => ?_
  unfold Oper.wp
  simp [execOp, ho, resolve, invoke, builtin, hrun, Result.andThen]
  exact hK _ _ h
set_option maxHeartbeats 4000000 in
set_option maxRecDepth 100000 in
theorem rep_run (R G cap : Nat) (c3 : Value) (s : ByteArray) (w : World) (hr : RepAt w R 0 0 c3 (.slice (some ⟨G, 0, none⟩) 6 cap)) (hO : Olds w G) (hGR : ¬ G = R) (hs : s.size ≤ 140737488355328) (n : Nat) (hn : n ≤ R) :
    Calls Tryz.prog 31 #[.pointer (some ⟨R, 0, none⟩), .string s] w fun e w' => e = .returned (.string ⟨(s.data.toList.filter dropC).toArray⟩) ∧ Below n w w' := by
  have hR := rep_lt hr
  have hmf : ∀ (fn : Fn) (first cap : Array Value) (w : World), (Instr.makeFunc fn first cap).run Tryz.prog w = .ok (.func fn first cap) w := fun _ _ _ _ => rfl
  go_enter Tryz.func31, Tryz.ntmps31
  go_wp2_with (go_at_call 39; refine (do_run R G cap c3 w hr hO hGR n hn).mono ?_)
  rintro e w1 ⟨rfl, hr1, hT, hB⟩
  have k3 : w1.cell? ⟨R, 3, none⟩ = some (.iface 101 (.pointer (some ⟨w.heap.size + 1, 0, none⟩))) := by rw [Lib.cell_of_heap hr1]; rfl
  go_wp2_with (go_at_call 118; refine (bsr_run (w.heap.size + 1) w.heap.size s w1 hT hs).mono ?_)
  rintro e w2 ⟨rfl, hB2⟩
  go_wp2
  go_ret
  exact ⟨rfl, hB.trans (hB2.mono (by have := hB.size; omega))⟩
/-- A row of the three signs. -/
def six : Array Value := #[vstr [9], vstr [], vstr [10], vstr [], vstr [13], vstr []]
theorem append6 (g : Nat) (w : World) (hg : w.heap[g]? = some (.cells six 9 (0, 0))) : ∃ cap Z, (Builtin.append_ #[22, 22] 22 #[.slice none 0 0, .slice (some ⟨g, 0, none⟩) 6 6]).run Tryz.prog w = .ok (.slice (some ⟨w.heap.size, 0, none⟩) 6 cap) (w.drew.alloc (.cells (six ++ Z) 9)) := by
  have h : (Tryz.prog.info? 9).map (fun i => (i.zero, i.size, i.bytes)) = some (some (vstr []), 1, 16) := by kernel_rfl
  obtain ⟨i, hi, e⟩ := Option.map_eq_some_iff.1 h
  simp only [Prod.mk.injEq] at e
  have hf : (Builtin.firstCells 1 6 (.slice (some ⟨g, 0, none⟩) 6 6)).run Tryz.prog w.drew = .ok six.toList.toArray w.drew := by
    refine run_firstCells_some (P := Tryz.prog) w.drew 1 6 ⟨g, 0, none⟩ 6 6 six.toList rfl (fun j v hj => ?_)
    rw [Addr.add_lit, Lib.cell_of_heap (w := w.drew) hg, Nat.zero_add]
    simpa using hj
  have := run_append_grow' (P := Tryz.prog) (t := 22) (t' := 22) (ty := 22) (z := 1) (s := none) (sLen := 0) (sCap := 0) (olds := []) w Tryz.underlying22 hi e.2.1 e.1 (by kernel_rfl) (by simp [Builtin.firstCells]) (x := .slice (some ⟨g, 0, none⟩) 6 6) (m := 6) (news := six.toList) (fun w' => by simp [Builtin.lenOf]) hf (by omega) (by decide) (by rw [e.2.2]; decide)
  exact ⟨_, _, by simpa using this⟩
set_option maxHeartbeats 4000000 in
set_option maxRecDepth 100000 in
theorem new_run (g : Nat) (w : World) (hg : w.heap[g]? = some (.cells six 9 (0, 0))) :
    Calls Tryz.prog 30 #[.slice (some ⟨g, 0, none⟩) 6 6] w fun e w' => ∃ cap, e = .returned (.pointer (some ⟨w.heap.size + 1, 0, none⟩)) ∧
      RepAt w' (w.heap.size + 1) 0 0 .nilIface (.slice (some ⟨w.heap.size, 0, none⟩) 6 cap) ∧ Olds w' w.heap.size ∧ Below w.heap.size w w' := by
  obtain ⟨cap, Z, hap⟩ := append6 g w hg
  go_enter Tryz.func30, Tryz.ntmps30
  go_wp2_with (at_builtin; refine wpList_append_eq rfl _ _ _ _ rfl _ _ hap ?_)
  go_wp2
  go_ret
  have hs1 : (w.alloc (.cells (six ++ Z) 9)).heap.size = w.heap.size + 1 := by simp
  have e0 : ∀ o, ((w.alloc (.cells (six ++ Z) 9)).alloc o).drew.heap[w.heap.size]? = some (.cells (six ++ Z) 9 (0, 0)) := fun o =>
    (Below.heap_alloc (w.alloc (.cells (six ++ Z) 9)) o w.heap.size (by omega)).trans (heap_alloc_last w _)
  have e1 : ∀ o, ((w.alloc (.cells (six ++ Z) 9)).alloc o).drew.heap[w.heap.size + 1]? = some o := fun o => by
    rw [← hs1]
    exact heap_alloc_last _ _
  refine ⟨cap, rfl, e1 _, ?_, Below.drew (Below.alloc (Below.alloc (Below.refl _ _) (Nat.le_refl _) _) (by omega) _)⟩
  have ec : ∀ o j v, j < 6 → six[j]? = some v → ((w.alloc (.cells (six ++ Z) 9)).alloc o).drew.cell? ⟨w.heap.size, j, none⟩ = some v := fun o j v hj h => by
    rw [Lib.cell_of_heap (e0 o)]
    exact (Array.getElem?_append_left (show j < six.size from hj)).trans h
  exact ⟨by simp [World.drew]; omega, ec _ 0 _ (by decide) rfl, ec _ 1 _ (by decide) rfl, ec _ 2 _ (by decide) rfl, ec _ 3 _ (by decide) rfl, ec _ 4 _ (by decide) rfl, ec _ 5 _ (by decide) rfl⟩
set_option maxHeartbeats 4000000 in
set_option maxRecDepth 100000 in
theorem strip_run (s : List UInt8) (w : World) (hs : s.length ≤ 140737488355328) :
    Calls Tryz.prog 20 #[.string ⟨s.toArray⟩] w fun e w' => e = .returned (.string ⟨(urlS s).toArray⟩) ∧ Below w.heap.size w w' := by
  have ht := trimS_len s ctl
  have hT := Any.strings_Trim_laid laysTrim (by kernel_rfl) ⟨s.toArray⟩ ⟨#[0, 1, 2, 3, 4, 5, 6, 7, 8, 9, 10, 11, 12, 13, 14, 15, 16, 17, 18, 19, 20, 21, 22, 23, 24, 25, 26, 27, 28, 29, 30, 31, 32]⟩ w (by simp only [ByteArray.size, List.size_toArray]; omega) (by decide) (ascii_of_all (by decide))
  go_enter Tryz.func20, Tryz.ntmps20
  go_wp2_with (go_at_call 29; refine hT.mono ?_)
  rintro e w1 rfl hB1
  rw [show Lib.trimS s [0, 1, 2, 3, 4, 5, 6, 7, 8, 9, 10, 11, 12, 13, 14, 15, 16, 17, 18, 19, 20, 21, 22, 23, 24, 25, 26, 27, 28, 29, 30, 31, 32] = trR lowC (s.dropWhile lowC) from trim_ctl s]
  have hl : (trR lowC (s.dropWhile lowC)).length ≤ 140737488355328 := by rw [← trim_ctl]; omega
  have hu : (trR lowC (s.dropWhile lowC)).filter dropC = urlS s := rfl
  go_wp2_with (go_at_call 30; refine (new_run w1.heap.size (w1.alloc (.cells six 9)) (heap_alloc_last w1 _)).mono ?_)
  rintro e w2 ⟨cap, rfl, hr, hO, hB2⟩
  have hs1 : (w1.alloc (.cells six 9)).heap.size = w1.heap.size + 1 := by simp
  rw [hs1] at hr hO hB2 ⊢
  go_wp2_with (go_at_call 31; refine (rep_run _ _ cap _ _ w2 hr hO (by omega) (by simpa [ByteArray.size] using hl) w.heap.size (by have := hB1.size; omega)).mono ?_)
  rintro e w3 rfl hB3
  go_wp2
  go_ret
  refine ⟨rfl, hB1.trans (((Below.refl _ _).alloc hB1.size _).trans ((hB2.mono (by have := hB1.size; omega)).trans hB3))⟩
/-- url.Strip. -/
theorem url_walk (s : List UInt8) (hs : s.length ≤ 140737488355328) : Fn1 Tryz.prog 20 [.str s] (fun r => r = .str (urlS s)) := by
  intro w I vs hl hv hI
  obtain ⟨v0, rfl⟩ : ∃ v0, vs = [v0] := by
    match vs, hl with
    | [a], _ => exact ⟨a, rfl⟩
  obtain ⟨rfl, _⟩ := pr_str_inv (hv 0 v0 _ rfl rfl)
  have h1 : (urlS s).length ≤ s.length := by
    refine Nat.le_trans (List.length_filter_le _ _) ?_
    rw [← trim_ctl]
    exact trimS_len s ctl
  exact fn1_str hI (by omega) (strip_run s w hs)
end Go.Proofs.YtkkcmobnhiiacaaGreatDoor
