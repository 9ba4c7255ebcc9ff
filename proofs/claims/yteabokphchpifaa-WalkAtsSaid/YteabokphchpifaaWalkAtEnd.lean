/- The statement WalkAts: every input. No conditions. -/
import Derived.Test.YteabokphchpifaaWalkAtLaw
import Derived.Test.YteabokphchpifaaReadW
set_option linter.unusedSimpArgs false
set_option linter.unusedVariables false
set_option maxRecDepth 100000
namespace Go.Proofs.Yteabokphchpifaa
open Go.ChangeShapes Go.WideShapes Go.ChangeAt Go.RowKit

theorem reads_ints (n : Nat) : Reads Try.prog 24 (fun l : List Int => .lst (l.map (V.int .i64))) (fun _ => True) (fun _ => 0) n := by
  cases n with
  | zero => exact Reads.zero
  | succ n => exact (reads_slice (f := V.int .i64) (z := 1) (by kernel_rfl) cells_3 (fun _ => rfl) (by simp) (reads_int (k := .i64) (by kernel_rfl) n)).as id (fun _ => rfl) (fun _ _ => trivial) (fun _ => Nat.zero_le _)
theorem bytes_att : Try.prog.bytesOf 92 = 32 := by kernel_rfl
theorem bytes_node : Try.prog.bytesOf 41 = 80 := by kernel_rfl
theorem reads_att_w (n : Nat) : ReadsW Try.prog 92 attA (fun _ => True) (fun _ => 0) n := by
  cases n with
  | zero => exact ReadsW.zero
  | succ n =>
    obtain ⟨fs, hu, hs⟩ := fields_of (P := Try.prog) (t := 92) (sig := [(9, 0), (9, 1)]) (by kernel_rfl)
    obtain ⟨f0, r0, rfl, t0, o0, hs⟩ := fields_cons hs
    obtain ⟨f1, r1, rfl, t1, o1, hs⟩ := fields_cons hs
    obtain rfl := fields_nil hs
    refine (reads_struct_w (L := 2) hu cells_92 (g := fun x : List UInt8 × List UInt8 × Unit => (V.str x.1).cells ++ ((V.str x.2.1).cells ++ [])) (fun _ => rfl)
      (reads_fs_cons_w (f := V.str) (z := 1) o0 (by rw [t0]; exact cells_9) (fun _ => rfl) (by rw [t0]; exact reads_str_w (by kernel_rfl) n)
        (reads_fs_cons_w (f := V.str) (z := 1) o1 (by rw [t1]; exact cells_9) (fun _ => rfl) (by rw [t1]; exact reads_str_w (by kernel_rfl) n) reads_fs_nil_w))).as (fun x => (⟨x.1, x.2.1⟩ : Atr)) (fun _ => rfl) (fun _ _ => trivial) (fun x => Nat.zero_le _)
theorem reads_atts_w (n : Nat) : ReadsW Try.prog 39 (fun l : List Atr => .lst (List.map attA l)) (fun l => l.length * 32 ≤ 140737488351232) (fun _ => 0) n := by
  cases n with
  | zero => exact ReadsW.zero
  | succ n => exact (reads_slice_w (f := attA) (z := 2) (by kernel_rfl) cells_92 (fun _ => rfl) (by simp) (reads_att_w n)).as id (fun _ => rfl) (fun l h => by have := h.1; rw [bytes_att] at this; exact this) (fun _ => Nat.zero_le _)
theorem reads_node_both_w (n : Nat) : ReadsW Try.prog 41 nodeA fitN (fun _ => 0) n ∧ ReadsW Try.prog 29 (fun l => .lst (nodesL l)) fitL (fun _ => 0) n := by
  induction n with
  | zero => exact ⟨ReadsW.zero, ReadsW.zero⟩
  | succ n ih =>
    refine ⟨?_, (reads_slice_w (f := nodeA) (z := 4) (by kernel_rfl) cells_41 nodeA_cells (by simp) ih.1).as id (fun _ => by simp [nodesL_map]) (fun l h => ⟨by have := h.1; rw [bytes_node] at this; exact this, fitA_of h.2⟩) (fun l => Nat.zero_le _)⟩
    obtain ⟨fs, hu, hs⟩ := fields_of (P := Try.prog) (t := 41) (sig := [(9, 0), (39, 1), (9, 2), (29, 3)]) (by kernel_rfl)
    obtain ⟨f0, r0, rfl, t0, o0, hs⟩ := fields_cons hs
    obtain ⟨f1, r1, rfl, t1, o1, hs⟩ := fields_cons hs
    obtain ⟨f2, r2, rfl, t2, o2, hs⟩ := fields_cons hs
    obtain ⟨f3, r3, rfl, t3, o3, hs⟩ := fields_cons hs
    obtain rfl := fields_nil hs
    refine (reads_struct_w (L := 4) hu cells_41 (g := fun x : List UInt8 × List Atr × List UInt8 × List Nd × Unit => (V.str x.1).cells ++ ((V.lst (List.map attA x.2.1)).cells ++ ((V.str x.2.2.1).cells ++ ((V.lst (nodesL x.2.2.2.1)).cells ++ [])))) (fun _ => rfl)
      (reads_fs_cons_w (f := V.str) (z := 1) o0 (by rw [t0]; exact cells_9) (fun _ => rfl) (by rw [t0]; exact reads_str_w (by kernel_rfl) n)
        (reads_fs_cons_w (f := fun l : List Atr => .lst (List.map attA l)) (z := 1) o1 (by rw [t1]; exact cells_39) (fun _ => rfl) (by rw [t1]; exact reads_atts_w n)
          (reads_fs_cons_w (f := V.str) (z := 1) o2 (by rw [t2]; exact cells_9) (fun _ => rfl) (by rw [t2]; exact reads_str_w (by kernel_rfl) n)
            (reads_fs_cons_w (f := fun l : List Nd => .lst (nodesL l)) (z := 1) o3 (by rw [t3]; exact cells_29) (fun _ => rfl) (by rw [t3]; exact ih.2) reads_fs_nil_w))))).as
      (fun x => Nd.mk x.1 x.2.1 x.2.2.1 x.2.2.2.1) (fun x => by rw [nodeA_mk]; rfl) (fun x h => fitN_mk.2 ⟨h.2.1, h.2.2.2.1⟩) (fun x => Nat.zero_le _)
theorem walkAts_core : LawCore 8 Try.f8.params.toList (Reached Try.prog Try.f8.params.toList) := by
  refine core_of fun H enc W base args ds ps hval hA hlt hok => ?_
  obtain ⟨a, v, vs, d, ds', q, rfl, rfl, _, hp, hsz, _, hA', hlt', hval'⟩ := arg1_w (t := 29) (ts := [24]) hval hA hlt hok (fun n => (reads_node_both_w n).2) ⟨fun _ => rfl, by kernel_rfl⟩
  obtain ⟨w, v', vs', d', ds'', q', rfl, rfl, hp', _, _, hA'', _, _⟩ := arg1 (t := 24) (ts := []) hval' hA' hlt' reads_ints ⟨fun _ => rfl, by kernel_rfl⟩
  obtain ⟨rfl, rfl⟩ := arg0 hA''
  exact ⟨_, args_cons hp (args_cons hp' args_nil), walkAts_law a w hsz⟩

theorem walkAts_said : Rows.WalkAtsSaid :=
  OpenClaim.holds_of_wide 8 Try.f8 rfl rfl rfl rfl rfl rfl rfl ⟨rfl, rfl, rfl, rfl, rfl⟩ rfl rfl rfl rfl rfl (by kernel_rfl) Try.func8 (by kernel_rfl)
    (of_decide_eq_true (by kernel_rfl)) (by unfold Func.isWrapper; first | (rw [if_pos (by decide +kernel)]; kernel_rfl) | (rw [if_neg (by decide +kernel)]; exact ⟨rfl, rfl⟩))
    (fun os started H enc _ => frame_said (s := Rows.walkAtsSpec) started (by kernel_rfl) Try.func8 (bt := 4) (by kernel_rfl) rfl rfl (by kernel_rfl) (fun ds hd => by
        match ds, hd with
        | [_, _], _ => rfl)
      (ChangeSpec.witness6 (enc := enc) (C := Try.checked) false ⟨#[], #[.slice none 0 0, .slice none 0 0], []⟩ 8 (by kernel_rfl) (by kernel_rfl) (by kernel_rfl) (by kernel_rfl)) walkAts_core)
end Go.Proofs.Yteabokphchpifaa
