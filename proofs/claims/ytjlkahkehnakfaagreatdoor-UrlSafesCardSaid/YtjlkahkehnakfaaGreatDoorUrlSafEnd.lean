/- The card UrlSafes: every input. No conditions. -/
import Derived.Test.YtjlkahkehnakfaaGreatDoorUrlSaf
import Derived.Test.YtjlkahkehnakfaaGreatDoorReadL
import Derived.Test.YtjlkahkehnakfaaGreatDoorFrameS
import Derived.Test.YtjlkahkehnakfaaGreatDoorCards
set_option linter.unusedSimpArgs false
set_option linter.unusedVariables false
set_option maxRecDepth 100000
namespace Go.Proofs.YtjlkahkehnakfaaGreatDoor
open Go.ChangeShapes Go.WideShapes Go.ChangeAt Go.RowKit

theorem urlSafes_core : LawCoreG (fun _ : World => True) 3 Tryz.f3.params.toList (Reached Tryz.prog Tryz.f3.params.toList) := by
  refine coreG_of fun H enc W base args ds ps hval hA hlt hok => ?_
  obtain ⟨a0, v0, vs0, d0, ds0, q0, rfl, rfl, hok0, hp0, hsz0, _, hA0, hlt0, hval0⟩ := arg1_w (t := 9) (ts := [22]) hval hA hlt hok (fun n => reads_str_s (by kernel_rfl) n) ⟨fun _ => rfl, by kernel_rfl⟩
  obtain ⟨a1, v1, vs1, d1, ds1, q1, rfl, rfl, hok1, hp1, hsz1, _, hA1, hlt1, hval1⟩ := arg1_w (t := 22) (ts := []) hval0 hA0 hlt0 hok0 (fun n => reads_strs_w n) ⟨fun _ => rfl, by kernel_rfl⟩
  obtain ⟨rfl, rfl⟩ := arg0 hA1
  exact ⟨_, args_cons hp0 (args_cons hp1 args_nil), urlSafes_law a0 (by omega) a1 hsz1⟩

theorem urlSafes_row : Rows.UrlSafesSaid :=
  OpenClaim.holds_of_cond 3 Tryz.f3 rfl rfl rfl rfl rfl rfl rfl ⟨rfl, rfl, rfl, rfl, rfl⟩ rfl rfl rfl rfl rfl (by kernel_rfl) Tryz.func3 (by kernel_rfl)
    (of_decide_eq_true (by kernel_rfl)) (by unfold Func.isWrapper; first | (rw [if_pos (by decide +kernel)]; kernel_rfl) | (rw [if_neg (by decide +kernel)]; exact ⟨rfl, rfl⟩))
    (fun os started H enc _ F => by
      rw [OpenClaim.pre_eq_preRow]
      exact frame_laid (S := OpenSpec.ofChange Rows.urlSafesSpec) (s := Rows.urlSafesSpec) (laid := laidS) started (by kernel_rfl) Tryz.func3 (bt := 4) (by kernel_rfl) rfl rfl (by kernel_rfl) (fun ds hd => by
        match ds, hd with
        | [_, _], _ => rfl) F rfl rfl rfl (fun _ _ _ => trivial) (fun ds _ h => h)
        (witness_laidS (enc := enc) (S := OpenSpec.ofChange Rows.urlSafesSpec) #[.string .empty, .slice none 0 0] 8 (by kernel_rfl) (x := ([.lit (.string []), .nil], [], [])) (by kernel_rfl) (fun k hk => by cases hk) (by kernel_rfl)) urlSafes_core)

theorem urlSafes_holds : Rows.UrlSafesCardSaid :=
  Claim7.holds_tied_plain_at .later [] [.data, .pinned] true (true, "24ce8cb193f3489e856324db52f13076321b66fb1791b9750919498d034ba827") true urlSafes_row (fun _ h => by cases h) (by kernel_rfl) (fun _ h => by cases h) urlSafes_row_tie rfl ⟨rfl, rfl⟩ (by kernel_rfl) rfl
    (fun f fn hf hfn => by
      obtain rfl : f = 3 := Option.some.inj ((show Tryz.prog.funcNamed "bobbinet/bobbinetlaw.UrlSafes" = some 3 by kernel_rfl).symm.trans hf) |>.symm
      obtain rfl : fn = Tryz.f3 := (Option.some.inj (Tryz.func3.symm.trans hfn)).symm
      exact ⟨by kernel_rfl, fun j t ht => by
        have hall : (Tryz.f3.params.toList.all fun u => !Tryz.prog.wantsStandIn u) = true := by kernel_rfl
        have hm : t ∈ Tryz.f3.params.toList := by simpa using Array.mem_of_getElem? ht
        exact (show Tryz.prog.wantsStandIn t = false by simpa using List.all_eq_true.1 hall t hm)⟩)
    (by kernel_rfl)
end Go.Proofs.YtjlkahkehnakfaaGreatDoor
