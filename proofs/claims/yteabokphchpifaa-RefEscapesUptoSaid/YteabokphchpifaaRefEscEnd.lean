/- The statement RefEscapes, where what it reads is of bulk at most 1048576: every such input. No conditions. -/
import Derived.Test.YteabokphchpifaaRefEsc
set_option linter.unusedSimpArgs false
set_option linter.unusedVariables false
set_option maxRecDepth 100000
namespace Go.Proofs.Yteabokphchpifaa
open Go.ChangeShapes Go.WideShapes Go.ChangeAt Go.RowKit

theorem refEscapes_law (s : List UInt8) (a : Bool) (hs : s.length ≤ 2097152) : Fn1 Try.prog 14 [.str s, .bool a] (fun r => r = .bool true) := by
  have h1 := ref_esc s a hs
  have h2 := doc_esc s a hs
  generalize escT a s = o at h1 h2
  cases a
  all_goals (
    refine fn1E (T := Try.tt) Try.func14 rfl tt_all follows_all ?_ ?_ fun C hC hE => ?_
    · kernel_rfl
    · exact Nat.le_of_ble_eq_true (by kernel_rfl)
    conv => whnf
    repeat' (first | (refine brd_t (by first | assumption | omega) ?_; conv => whnf) | (refine brd_f (by first | assumption | omega) ?_; conv => whnf) | (refine ask (by first | assumption | omega) ?_; conv => whnf) | (refine fit64 (by omega) ?_; conv => whnf) | (refine fit (by simp only [kmin, kmax]; omega) ?_; conv => whnf) | (refine br_t (by assumption) ?_; conv => whnf) | (refine br_f (by assumption) ?_; conv => whnf) | (refine get_of (by assumption) ?_; conv => whnf) | (refine get_map (by assumption) ?_; conv => whnf) | (refine brd_t rfl ?_; conv => whnf) | (refine call_eq (h1) hC hasBody_38 ?_ ?_ ?_; kernel_rfl; kernel_rfl; conv => whnf) | (refine callq_eq (h1) hC hasBody_38 ?_ ?_ ?_; kernel_rfl; kernel_rfl; conv => whnf) | (refine call_eq (h2) hC hasBody_39 ?_ ?_ ?_; kernel_rfl; kernel_rfl; conv => whnf) | (refine callq_eq (h2) hC hasBody_39 ?_ ?_ ?_; kernel_rfl; kernel_rfl; conv => whnf) | (refine brd (fun h => ?_) (fun h => ?_) <;> conv => whnf) | (refine br (fun h => ?_) (fun h => ?_) <;> conv => whnf) | (refine ret_now hE ?_; conv => whnf) | (intro hlen; conv => whnf))
    exact ⟨rfl, rfl⟩)
theorem refEscapes_core : LawCore 14 Try.f14.params.toList (fun H ds => Rows.uptoSmall H ds = true) := by
  refine core_of fun H enc W base args ds ps hval hA hlt hok => ?_
  obtain ⟨a, v, vs, d, ds', q, rfl, rfl, hp, _, hsz, hA', hlt', hval'⟩ := arg1 (t := 9) (ts := [4]) hval hA hlt (fun n => reads_str (by kernel_rfl) n) ⟨fun _ => rfl, by kernel_rfl⟩
  obtain ⟨w, v', vs', d', ds'', q', rfl, rfl, hp', _, _, hA'', _, _⟩ := arg1 (t := 4) (ts := []) hval' hA' hlt' (fun n => reads_bool (by kernel_rfl) n) ⟨fun _ => rfl, by kernel_rfl⟩
  obtain ⟨rfl, rfl⟩ := arg0 hA''
  have hb : Rows.uptoBulk d + Rows.uptoBulk d' ≤ 1048576 := by
    simpa [Rows.uptoSmall, Rows.uptoBulkAll] using of_decide_eq_true hok
  exact ⟨_, args_cons hp (args_cons hp' args_nil), refEscapes_law a w (by omega)⟩

theorem refEscapes_holds : Rows.RefEscapesUptoSaid :=
  OpenClaim.holds_of_cond 14 Try.f14 rfl rfl rfl rfl rfl rfl rfl ⟨rfl, rfl, rfl, rfl, rfl⟩ rfl rfl rfl rfl rfl (by kernel_rfl) Try.func14 (by kernel_rfl)
    (of_decide_eq_true (by kernel_rfl)) (by unfold Func.isWrapper; first | (rw [if_pos (by decide +kernel)]; kernel_rfl) | (rw [if_neg (by decide +kernel)]; exact ⟨rfl, rfl⟩))
    (fun os started H enc _ F => frame_upto (s := Rows.refEscapesSpec) started (by kernel_rfl) Try.func14 (bt := 4) (by kernel_rfl) rfl rfl (by kernel_rfl) (fun ds hd => by
        match ds, hd with
        | [_, _], _ => rfl) F
      (OpenSpec.witness (enc := enc) (C := Try.checked) (s := Rows.OpenSpec.upto Rows.refEscapesSpec) (k := Rows.uptoSmall) rfl false ⟨#[], #[.string ByteArray.empty, .bool false], []⟩ 8 (by kernel_rfl) (by kernel_rfl) (by kernel_rfl)
        (x := ([.lit (.string []), .lit (.bool false)], [], [])) (by kernel_rfl) rfl (by kernel_rfl)) refEscapes_core)
end Go.Proofs.Yteabokphchpifaa
