/- The card UrlSchemes: every input. No conditions. -/
import Derived.Test.YtjlkahkehnakfaaDoorUrlScM
import Derived.Test.YtjlkahkehnakfaaDoorReadS
import Derived.Test.YtjlkahkehnakfaaDoorFrameS
import Derived.Test.YtjlkahkehnakfaaDoorCards
set_option linter.unusedSimpArgs false
set_option linter.unusedVariables false
set_option maxRecDepth 100000
namespace Go.Proofs.YtjlkahkehnakfaaDoor
open Go.ChangeShapes Go.WideShapes Go.ChangeAt Go.RowKit

theorem urlSchemes_core : LawCoreG (fun _ : World => True) 4 Tryd.f4.params.toList (Reached Tryd.prog Tryd.f4.params.toList) := by
  refine coreG_of fun H enc W base args ds ps hval hA hlt hok => ?_
  obtain ⟨a0, v0, vs0, d0, ds0, q0, rfl, rfl, hok0, hp0, hsz0, _, hA0, hlt0, hval0⟩ := arg1_w (t := 9) (ts := []) hval hA hlt hok (fun n => reads_str_s (by kernel_rfl) n) ⟨fun _ => rfl, by kernel_rfl⟩
  obtain ⟨rfl, rfl⟩ := arg0 hA0
  exact ⟨_, args_cons hp0 args_nil, urlSchemes_law a0 hsz0⟩

theorem urlSchemes_row : Rows.UrlSchemesSaid :=
  OpenClaim.holds_of_cond 4 Tryd.f4 rfl rfl rfl rfl rfl rfl rfl ⟨rfl, rfl, rfl, rfl, rfl⟩ rfl rfl rfl rfl rfl (by kernel_rfl) Tryd.func4 (by kernel_rfl)
    (of_decide_eq_true (by kernel_rfl)) (by unfold Func.isWrapper; first | (rw [if_pos (by decide +kernel)]; kernel_rfl) | (rw [if_neg (by decide +kernel)]; exact ⟨rfl, rfl⟩))
    (fun os started H enc _ F => by
      rw [OpenClaim.pre_eq_preRow]
      exact frame_laid (S := OpenSpec.ofChange Rows.urlSchemesSpec) (s := Rows.urlSchemesSpec) (laid := laidS) started (by kernel_rfl) Tryd.func4 (bt := 4) (by kernel_rfl) rfl rfl (by kernel_rfl) (fun ds hd => by
        match ds, hd with
        | [_], _ => rfl) F rfl rfl rfl (fun _ _ _ => trivial) (fun ds _ h => h)
        (witness_laidS (enc := enc) (S := OpenSpec.ofChange Rows.urlSchemesSpec) #[.string .empty] 8 (by kernel_rfl) (x := ([.lit (.string [])], [], [])) (by kernel_rfl) (fun k hk => by cases hk) (by kernel_rfl)) urlSchemes_core)

theorem urlSchemes_holds : Rows.UrlSchemesCardSaid :=
  Claim7.holds_tied_plain_at .later [] [.data, .pinned] true (true, "c71c8b0f4a59f4697dbab8fe41da104827b005877b842c1eaced24678831ce70") true urlSchemes_row (fun _ h => by cases h) (by kernel_rfl) (fun _ h => by cases h) urlSchemes_row_tie rfl ⟨rfl, rfl⟩ (by kernel_rfl) rfl
    (fun f fn hf hfn => by
      obtain rfl : f = 4 := Option.some.inj ((show Tryd.prog.funcNamed "bobbinet/bobbinetlaw.UrlSchemes" = some 4 by kernel_rfl).symm.trans hf) |>.symm
      obtain rfl : fn = Tryd.f4 := (Option.some.inj (Tryd.func4.symm.trans hfn)).symm
      exact ⟨by kernel_rfl, fun j t ht => by
        have hall : (Tryd.f4.params.toList.all fun u => !Tryd.prog.wantsStandIn u) = true := by kernel_rfl
        have hm : t ∈ Tryd.f4.params.toList := by simpa using Array.mem_of_getElem? ht
        exact (show Tryd.prog.wantsStandIn t = false by simpa using List.all_eq_true.1 hall t hm)⟩)
    (by kernel_rfl)
end Go.Proofs.YtjlkahkehnakfaaDoor
