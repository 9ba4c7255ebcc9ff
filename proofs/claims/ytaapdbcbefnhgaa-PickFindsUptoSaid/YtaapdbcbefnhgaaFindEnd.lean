/- The statement PickFinds, where what it reads is of bulk at most 1048576: every such input. No conditions. -/
import Derived.Test.YtaapdbcbefnhgaaFindE
set_option linter.unusedSimpArgs false
set_option linter.unusedVariables false
set_option maxRecDepth 100000
namespace Go.Proofs.Ytaapdbcbefnhgaa
open Go.ChangeShapes Go.WideShapes Go.ChangeAt Go.RowKit

theorem reads_pick (n : Nat) : Reads Try.prog 116 pickA (fun _ => True) (fun _ => 0) n := by
  cases n with
  | zero => exact Reads.zero
  | succ n =>
    obtain ⟨fs, hu, hs⟩ := fields_of (P := Try.prog) (t := 116) (sig := [(9, 0), (9, 1), (4, 2)]) (by kernel_rfl)
    obtain ⟨f0, r0, rfl, t0, o0, hs⟩ := fields_cons hs
    obtain ⟨f1, r1, rfl, t1, o1, hs⟩ := fields_cons hs
    obtain ⟨f2, r2, rfl, t2, o2, hs⟩ := fields_cons hs
    obtain rfl := fields_nil hs
    refine (reads_struct (L := 3) hu cells_116 (g := fun x : List UInt8 × List UInt8 × Bool × Unit => (V.str x.1).cells ++ ((V.str x.2.1).cells ++ ((V.bool x.2.2.1).cells ++ []))) (fun _ => rfl)
      (reads_fs_cons (f := V.str) (z := 1) o0 (by rw [t0]; exact cells_9) (fun _ => rfl) (by rw [t0]; exact reads_str (by kernel_rfl) n)
        (reads_fs_cons (f := V.str) (z := 1) o1 (by rw [t1]; exact cells_9) (fun _ => rfl) (by rw [t1]; exact reads_str (by kernel_rfl) n)
          (reads_fs_cons (f := V.bool) (z := 1) o2 (by rw [t2]; exact cells_4) (fun _ => rfl) (by rw [t2]; exact reads_bool (by kernel_rfl) n) reads_fs_nil)))).as (fun x => ((x.1, x.2.1, x.2.2.1) : Pk)) (fun _ => rfl) (fun _ _ => trivial) (fun _ => Nat.zero_le _)
theorem reads_picks (n : Nat) : Reads Try.prog 35 (fun l : List Pk => .lst (l.map pickA)) (fun _ => True) (fun _ => 0) n := by
  cases n with
  | zero => exact Reads.zero
  | succ n => exact (reads_slice (f := pickA) (z := 3) (by kernel_rfl) cells_116 (fun _ => rfl) (by simp) (reads_pick n)).as id (fun _ => rfl) (fun _ _ => trivial) (fun _ => Nat.zero_le _)

theorem pickFinds_core : LawCore 5 Try.f5.params.toList (fun H ds => Rows.uptoSmall H ds = true) := by
  refine core_of fun H enc W base args ds ps hval hA hlt hok => ?_
  obtain ⟨a, v, vs, d, ds', q, rfl, rfl, hp, _, _, hA', hlt', hval'⟩ := arg1 (t := 35) (ts := [36]) hval hA hlt reads_picks ⟨fun _ => rfl, by kernel_rfl⟩
  obtain ⟨w, v', vs', d', ds'', q', rfl, rfl, hp', _, hsz, hA'', _, _⟩ := arg1 (t := 36) (ts := []) hval' hA' hlt' reads_nodes ⟨fun _ => rfl, by kernel_rfl⟩
  obtain ⟨rfl, rfl⟩ := arg0 hA''
  have hb : Rows.uptoBulk d' ≤ 1048576 := by
    have := of_decide_eq_true hok
    simp [Rows.uptoBulkAll] at this
    omega
  exact ⟨_, args_cons hp (args_cons hp' args_nil), pickFinds_law a w (by omega)⟩

theorem pickFinds_holds : Rows.PickFindsUptoSaid :=
  OpenClaim.holds_of_cond 5 Try.f5 rfl rfl rfl rfl rfl rfl rfl ⟨rfl, rfl, rfl, rfl, rfl⟩ rfl rfl rfl rfl rfl (by kernel_rfl) Try.func5 (by kernel_rfl)
    (of_decide_eq_true (by kernel_rfl)) (by unfold Func.isWrapper; first | (rw [if_pos (by decide +kernel)]; kernel_rfl) | (rw [if_neg (by decide +kernel)]; exact ⟨rfl, rfl⟩))
    (fun os started H enc _ F => frame_upto (s := Rows.pickFindsSpec) started (by kernel_rfl) Try.func5 (bt := 4) (by kernel_rfl) rfl rfl (by kernel_rfl) (fun ds hd => by
        match ds, hd with
        | [_, _], _ => rfl) F
      (OpenSpec.witness (enc := enc) (C := Try.checked) (s := Rows.OpenSpec.upto Rows.pickFindsSpec) (k := Rows.uptoSmall) rfl false ⟨#[], #[.slice none 0 0, .slice none 0 0], []⟩ 8 (by kernel_rfl) (by kernel_rfl) (by kernel_rfl)
        (x := ([.nil, .nil], [], [])) (by kernel_rfl) rfl (by kernel_rfl)) pickFinds_core)
end Go.Proofs.Ytaapdbcbefnhgaa
