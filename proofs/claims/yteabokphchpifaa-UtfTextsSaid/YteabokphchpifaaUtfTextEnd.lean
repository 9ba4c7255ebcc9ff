/- The statement UtfTexts: every input. No conditions. -/
import Derived.Test.YteabokphchpifaaUtfText
import Derived.Test.YteabokphchpifaaReadW
set_option linter.unusedSimpArgs false
set_option linter.unusedVariables false
set_option maxRecDepth 100000
namespace Go.Proofs.Yteabokphchpifaa
open Go.ChangeShapes Go.WideShapes Go.ChangeAt Go.RowKit

theorem bytes_int : Try.prog.bytesOf 3 = 8 := by kernel_rfl
theorem reads_ints_w (n : Nat) : ReadsW Try.prog 24 (fun l : List Int => .lst (l.map (V.int .i64))) (fun l => l.length * 8 ≤ 140737488351232) (fun _ => 0) n := by
  cases n with
  | zero => exact ReadsW.zero
  | succ n => exact (reads_slice_w (f := V.int .i64) (z := 1) (by kernel_rfl) cells_3 (fun _ => rfl) (by simp) (reads_int_w (k := .i64) (by kernel_rfl) n)).as id (fun _ => rfl) (fun l h => by have := h.1; rw [bytes_int] at this; exact this) (fun _ => Nat.zero_le _)
theorem utfTexts_core : LawCore 13 Try.f13.params.toList (Reached Try.prog Try.f13.params.toList) := by
  refine core_of fun H enc W base args ds ps hval hA hlt hok => ?_
  obtain ⟨a, v, vs, d, ds', q, rfl, rfl, _, hp, hsz, _, hA', _, _⟩ := arg1_w (t := 24) (ts := []) hval hA hlt hok reads_ints_w ⟨fun _ => rfl, by kernel_rfl⟩
  obtain ⟨rfl, rfl⟩ := arg0 hA'
  exact ⟨_, args_cons hp args_nil, utfTexts_law a hsz⟩

theorem utfTexts_holds : Rows.UtfTextsSaid :=
  OpenClaim.holds_of_wide 13 Try.f13 rfl rfl rfl rfl rfl rfl rfl ⟨rfl, rfl, rfl, rfl, rfl⟩ rfl rfl rfl rfl rfl (by kernel_rfl) Try.func13 (by kernel_rfl)
    (of_decide_eq_true (by kernel_rfl)) (by unfold Func.isWrapper; first | (rw [if_pos (by decide +kernel)]; kernel_rfl) | (rw [if_neg (by decide +kernel)]; exact ⟨rfl, rfl⟩))
    (fun os started H enc _ => frame_said (s := Rows.utfTextsSpec) started (by kernel_rfl) Try.func13 (bt := 4) (by kernel_rfl) rfl rfl (by kernel_rfl) (fun ds hd => by
        match ds, hd with
        | [_], _ => rfl)
      (ChangeSpec.witness6 (enc := enc) (C := Try.checked) false ⟨#[], #[.slice none 0 0], []⟩ 8 (by kernel_rfl) (by kernel_rfl) (by kernel_rfl) (by kernel_rfl)) utfTexts_core)
end Go.Proofs.Yteabokphchpifaa
