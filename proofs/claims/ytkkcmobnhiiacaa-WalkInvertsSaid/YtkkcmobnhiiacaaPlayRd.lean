/- Nodes and changes of trees, read. No conditions. -/
import Derived.Test.YtkkcmobnhiiacaaPlayF
import Derived.Test.YtkkcmobnhiiacaaReadW
set_option linter.unusedSimpArgs false
set_option linter.unusedVariables false
set_option maxRecDepth 100000
namespace Go.Proofs.Ytkkcmobnhiiacaa
open Go.ChangeShapes Go.WideShapes Go.ChangeAt Go.RowKit

theorem bytes_att : Try.prog.bytesOf 88 = 32 := by kernel_rfl
theorem bytes_node : Try.prog.bytesOf 42 = 80 := by kernel_rfl
theorem bytes_int : Try.prog.bytesOf 3 = 8 := by kernel_rfl
theorem reads_ints_w (n : Nat) : ReadsW Try.prog 39 (fun l : List Int => .lst (l.map (V.int .i64))) (fun l => l.length * 8 ≤ 140737488351232) (fun _ => 0) n := by
  cases n with
  | zero => exact ReadsW.zero
  | succ n => exact (reads_slice_w (f := V.int .i64) (z := 1) (by kernel_rfl) cells_3 (fun _ => rfl) (by simp) (reads_int_w (k := .i64) (by kernel_rfl) n)).as id (fun _ => rfl) (fun l h => by have := h.1; rw [bytes_int] at this; exact this) (fun _ => Nat.zero_le _)
theorem reads_att_w (n : Nat) : ReadsW Try.prog 88 attA (fun _ => True) (fun _ => 0) n := by
  cases n with
  | zero => exact ReadsW.zero
  | succ n =>
    obtain ⟨fs, hu, hs⟩ := fields_of (P := Try.prog) (t := 88) (sig := [(9, 0), (9, 1)]) (by kernel_rfl)
    obtain ⟨f0, r0, rfl, t0, o0, hs⟩ := fields_cons hs
    obtain ⟨f1, r1, rfl, t1, o1, hs⟩ := fields_cons hs
    obtain rfl := fields_nil hs
    refine (reads_struct_w (L := 2) hu cells_88 (g := fun x : List UInt8 × List UInt8 × Unit => (V.str x.1).cells ++ ((V.str x.2.1).cells ++ [])) (fun _ => rfl)
      (reads_fs_cons_w (f := V.str) (z := 1) o0 (by rw [t0]; exact cells_9) (fun _ => rfl) (by rw [t0]; exact reads_str_w (by kernel_rfl) n)
        (reads_fs_cons_w (f := V.str) (z := 1) o1 (by rw [t1]; exact cells_9) (fun _ => rfl) (by rw [t1]; exact reads_str_w (by kernel_rfl) n) reads_fs_nil_w))).as (fun x => (⟨x.1, x.2.1⟩ : Atr)) (fun _ => rfl) (fun _ _ => trivial) (fun x => Nat.zero_le _)
theorem reads_atts_w (n : Nat) : ReadsW Try.prog 40 (fun l : List Atr => .lst (List.map attA l)) (fun l => l.length * 32 ≤ 140737488351232) (fun _ => 0) n := by
  cases n with
  | zero => exact ReadsW.zero
  | succ n => exact (reads_slice_w (f := attA) (z := 2) (by kernel_rfl) cells_88 (fun _ => rfl) (by simp) (reads_att_w n)).as id (fun _ => rfl) (fun l h => by have := h.1; rw [bytes_att] at this; exact this) (fun _ => Nat.zero_le _)
theorem reads_node_both_w (n : Nat) : ReadsW Try.prog 42 nodeA (gN 0) (fun _ => 0) n ∧ ReadsW Try.prog 22 (fun l => .lst (nodesL l)) (gL 0) (fun _ => 0) n := by
  induction n with
  | zero => exact ⟨ReadsW.zero, ReadsW.zero⟩
  | succ n ih =>
    refine ⟨?_, (reads_slice_w (f := nodeA) (z := 4) (by kernel_rfl) cells_42 nodeA_cells (by simp) ih.1).as id (fun _ => by simp [nodesL_map]) (fun l h => ⟨by have := h.1; rw [bytes_node] at this; exact this, gA_iff.2 h.2⟩) (fun l => Nat.zero_le _)⟩
    obtain ⟨fs, hu, hs⟩ := fields_of (P := Try.prog) (t := 42) (sig := [(9, 0), (40, 1), (9, 2), (22, 3)]) (by kernel_rfl)
    obtain ⟨f0, r0, rfl, t0, o0, hs⟩ := fields_cons hs
    obtain ⟨f1, r1, rfl, t1, o1, hs⟩ := fields_cons hs
    obtain ⟨f2, r2, rfl, t2, o2, hs⟩ := fields_cons hs
    obtain ⟨f3, r3, rfl, t3, o3, hs⟩ := fields_cons hs
    obtain rfl := fields_nil hs
    refine (reads_struct_w (L := 4) hu cells_42 (g := fun x : List UInt8 × List Atr × List UInt8 × List Nd × Unit => (V.str x.1).cells ++ ((V.lst (List.map attA x.2.1)).cells ++ ((V.str x.2.2.1).cells ++ ((V.lst (nodesL x.2.2.2.1)).cells ++ [])))) (fun _ => rfl)
      (reads_fs_cons_w (f := V.str) (z := 1) o0 (by rw [t0]; exact cells_9) (fun _ => rfl) (by rw [t0]; exact reads_str_w (by kernel_rfl) n)
        (reads_fs_cons_w (f := fun l : List Atr => .lst (List.map attA l)) (z := 1) o1 (by rw [t1]; exact cells_40) (fun _ => rfl) (by rw [t1]; exact reads_atts_w n)
          (reads_fs_cons_w (f := V.str) (z := 1) o2 (by rw [t2]; exact cells_9) (fun _ => rfl) (by rw [t2]; exact reads_str_w (by kernel_rfl) n)
            (reads_fs_cons_w (f := fun l : List Nd => .lst (nodesL l)) (z := 1) o3 (by rw [t3]; exact cells_22) (fun _ => rfl) (by rw [t3]; exact ih.2) reads_fs_nil_w))))).as
      (fun x => Nd.mk x.1 x.2.1 x.2.2.1 x.2.2.2.1) (fun x => by rw [nodeA_mk]; rfl) (fun x h => gN_mk.2 ⟨h.2.1, h.2.2.2.1⟩) (fun x => Nat.zero_le _)
theorem chA_cells (c : Ch) : (chA c).cells.length = 6 := by
  obtain ⟨k, p, x⟩ := c
  cases x
  rw [chA_mk]
  rfl
theorem reads_chg_w (n : Nat) : ReadsW Try.prog 44 chA (fun c => gN 0 c.node ∧ c.path.length * 8 ≤ 140737488351232) (fun _ => 0) n := by
  cases n with
  | zero => exact ReadsW.zero
  | succ n =>
    obtain ⟨fs, hu, hs⟩ := fields_of (P := Try.prog) (t := 44) (sig := [(3, 0), (39, 1), (42, 2)]) (by kernel_rfl)
    obtain ⟨f0, r0, rfl, t0, o0, hs⟩ := fields_cons hs
    obtain ⟨f1, r1, rfl, t1, o1, hs⟩ := fields_cons hs
    obtain ⟨f2, r2, rfl, t2, o2, hs⟩ := fields_cons hs
    obtain rfl := fields_nil hs
    refine (reads_struct_w (L := 6) hu cells_44 (g := fun x : Int × List Int × Nd × Unit => (V.int .i64 x.1).cells ++ ((V.lst (x.2.1.map (V.int .i64))).cells ++ ((nodeA x.2.2.1).cells ++ []))) (fun x => by cases x.2.2.1; rw [nodeA_mk]; rfl)
      (reads_fs_cons_w (f := V.int .i64) (z := 1) o0 (by rw [t0]; exact cells_3) (fun _ => rfl) (by rw [t0]; exact reads_int_w (k := .i64) (by kernel_rfl) n)
        (reads_fs_cons_w (f := fun l : List Int => .lst (l.map (V.int .i64))) (z := 1) o1 (by rw [t1]; exact cells_39) (fun _ => rfl) (by rw [t1]; exact reads_ints_w n)
          (reads_fs_cons_w (f := nodeA) (z := 4) o2 (by rw [t2]; exact cells_42) nodeA_cells (by rw [t2]; exact (reads_node_both_w n).1) reads_fs_nil_w)))).as
      (fun x => (⟨x.1, x.2.1, x.2.2.1⟩ : Ch)) (fun x => by cases x.2.2.1; rw [chA_mk, nodeA_mk]; rfl) (fun x h => ⟨h.2.2.1, h.2.1⟩) (fun x => Nat.zero_le _)
theorem reads_chgs_w (n : Nat) : ReadsW Try.prog 23 (fun l : List Ch => .lst (l.map chA)) (fun l => ∀ c ∈ l, gN 0 c.node ∧ c.path.length * 8 ≤ 140737488351232) (fun _ => 0) n := by
  cases n with
  | zero => exact ReadsW.zero
  | succ n => exact (reads_slice_w (f := chA) (z := 6) (by kernel_rfl) cells_44 chA_cells (by simp) (reads_chg_w n)).as id (fun _ => rfl) (fun l h => h.2) (fun _ => Nat.zero_le _)
end Go.Proofs.Ytkkcmobnhiiacaa
