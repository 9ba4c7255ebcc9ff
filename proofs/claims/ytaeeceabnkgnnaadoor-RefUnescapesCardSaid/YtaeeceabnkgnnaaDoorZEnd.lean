/- The card RefUnescapes: every input. No conditions. -/
import Derived.Test.YtaeeceabnkgnnaaDoorZFrm
import Derived.Test.YtaeeceabnkgnnaaDoorZRead
import Derived.Test.YtaeeceabnkgnnaaDoorCards
/-! The card RefUnescapes: every input. No conditions. -/
set_option linter.unusedSimpArgs false
set_option linter.unusedVariables false
set_option maxRecDepth 100000
namespace Go.Proofs.YtaeeceabnkgnnaaDoor
open Go.ChangeShapes Go.WideShapes Go.ChangeAt Go.RowKit

theorem refUnescapes_core : LawCoreG GE 7 Tryd.f7.params.toList (Reached Tryd.prog Tryd.f7.params.toList) := by
  refine coreG_of fun H enc W base args ds ps hval hA hlt hok => ?_
  obtain ⟨a, v, vs, d, ds', q, rfl, rfl, _, hp, hsz, _, hA', hlt', hval'⟩ := arg1_w (t := 9) (ts := []) hval hA hlt hok (fun n => reads_str_s (by kernel_rfl) n) ⟨fun _ => rfl, by kernel_rfl⟩
  obtain ⟨rfl, rfl⟩ := arg0 hA'
  exact ⟨_, args_cons hp args_nil, refUnescapes_law a (by omega)⟩

theorem refUnescapes_row : Rows.RefUnescapesSaid :=
  OpenClaim.holds_of_cond 7 Tryd.f7 rfl rfl rfl rfl rfl rfl rfl ⟨rfl, rfl, rfl, rfl, rfl⟩ rfl rfl rfl rfl rfl (by kernel_rfl) Tryd.func7 (by kernel_rfl)
    (of_decide_eq_true (by kernel_rfl)) (by unfold Func.isWrapper; first | (rw [if_pos (by decide +kernel)]; kernel_rfl) | (rw [if_neg (by decide +kernel)]; exact ⟨rfl, rfl⟩))
    (fun os started H enc _ F => by
      rw [OpenClaim.pre_eq_preRow]
      exact frame_laid (S := OpenSpec.ofChange Rows.refUnescapesSpec) (s := Rows.refUnescapesSpec) (laid := laidU) started (by kernel_rfl) Tryd.func7 (bt := 4) (by kernel_rfl) rfl rfl (by kernel_rfl) (fun ds hd => by
        match ds, hd with
        | [_], _ => rfl) F rfl rfl rfl (fun W h _ => ge_of_laid W h) (fun ds _ h => h)
        (witness_laidU (enc := enc) (S := OpenSpec.ofChange Rows.refUnescapesSpec) #[.string .empty] 8 (by kernel_rfl) (x := ([.lit (.string [])], [], [])) (by kernel_rfl) (fun k hk => by cases hk) (by kernel_rfl)) refUnescapes_core)

theorem refUnescapes_holds : Rows.RefUnescapesCardSaid :=
  Claim7.holds_tied_plain_at .later [] [.data, .data, .data, .sentinel, .sentinel] true (true, "e4e3b0782b4a6ee26a786b6c52e15713f0d25f39e227244fc5653d01f83727d1") true refUnescapes_row (fun _ h => by cases h) (by kernel_rfl) (fun _ h => by cases h) refUnescapes_row_tie rfl ⟨rfl, rfl⟩ (by kernel_rfl) rfl
    (fun f fn hf hfn => by
      obtain rfl : f = 7 := Option.some.inj ((show Tryd.prog.funcNamed "bobbinet/bobbinetlaw.RefUnescapes" = some 7 by kernel_rfl).symm.trans hf) |>.symm
      obtain rfl : fn = Tryd.f7 := (Option.some.inj (Tryd.func7.symm.trans hfn)).symm
      exact ⟨by kernel_rfl, fun j t ht => by
        have hall : (Tryd.f7.params.toList.all fun u => !Tryd.prog.wantsStandIn u) = true := by kernel_rfl
        have hm : t ∈ Tryd.f7.params.toList := by simpa using Array.mem_of_getElem? ht
        exact (show Tryd.prog.wantsStandIn t = false by simpa using List.all_eq_true.1 hall t hm)⟩)
    (by kernel_rfl)
end Go.Proofs.YtaeeceabnkgnnaaDoor
