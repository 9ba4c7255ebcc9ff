/- The card MarksNests, where what it reads is of bulk at most 1048576: every such input. No conditions. -/
import Derived.Test.YtkkcmobnhiiacaaDoorMReads
import Derived.Test.YtkkcmobnhiiacaaDoorNestY
set_option linter.unusedSimpArgs false
set_option linter.unusedVariables false
set_option maxRecDepth 100000
namespace Go.Proofs.YtkkcmobnhiiacaaDoor
open Go.ChangeShapes Go.WideShapes Go.ChangeAt Go.RowKit

theorem marksNests_core : LawCoreG GA 3 Tryd.f3.params.toList (fun H ds => Rows.uptoSmall H ds = true) := by
  refine coreG_of fun H enc W base args ds ps hval hA hlt hok => ?_
  obtain ⟨a, v, vs, d, ds', q, rfl, rfl, hp, _, _, hA', hlt', hval'⟩ := arg1 (t := 22) (ts := [23]) hval hA hlt reads_strs ⟨fun _ => rfl, by kernel_rfl⟩
  obtain ⟨w, v', vs', d', ds'', q', rfl, rfl, hp', _, hsz, hA'', _, _⟩ := arg1 (t := 23) (ts := []) hval' hA' hlt' reads_runs ⟨fun _ => rfl, by kernel_rfl⟩
  obtain ⟨rfl, rfl⟩ := arg0 hA''
  have hb := args_small2 hok
  exact ⟨_, args_cons hp (args_cons hp' args_nil), marksNests_law a w (by omega)⟩

theorem marksNests_row : Rows.MarksNestsUptoSaid :=
  OpenClaim.holds_of_cond 3 Tryd.f3 rfl rfl rfl rfl rfl rfl rfl ⟨rfl, rfl, rfl, rfl, rfl⟩ rfl rfl rfl rfl rfl (by kernel_rfl) Tryd.func3 (by kernel_rfl)
    (of_decide_eq_true (by kernel_rfl)) (by unfold Func.isWrapper; first | (rw [if_pos (by decide +kernel)]; kernel_rfl) | (rw [if_neg (by decide +kernel)]; exact ⟨rfl, rfl⟩))
    (fun os started H enc _ F => by
      rw [OpenClaim.pre_eq_preRow]
      exact frame_laid (S := Rows.OpenSpec.upto Rows.marksNestsSpec) (s := Rows.marksNestsSpec) (laid := laidM) started (by kernel_rfl) Tryd.func3 (bt := 4) (by kernel_rfl) rfl rfl (by kernel_rfl) (fun ds hd => by
        match ds, hd with
        | [_, _], _ => rfl) F rfl rfl rfl ga_of_laid (fun ds h _ => h Rows.uptoSmall rfl)
        (witness_laidM (enc := enc) (S := Rows.OpenSpec.upto Rows.marksNestsSpec) #[.slice none 0 0, .slice none 0 0] 8 (by kernel_rfl) (x := ([.nil, .nil], [], [])) (by kernel_rfl) (fun k hk => by cases hk; rfl) (by kernel_rfl)) marksNests_core)

theorem marksNests_holds : Rows.MarksNestsUptoCardSaid :=
  Claim7.holds_tied_plain_at .later [] [.listed, .data] true (true, "f24d742abbd1b27a4a3555e9c7ccbfc85169078dee953b58c416b4347601e7d9") false marksNests_row (fun _ h => by cases h) (by kernel_rfl) (fun _ h => by cases h) marksNestsUpto_row_tie rfl ⟨rfl, rfl⟩ (by kernel_rfl) rfl
    (fun f fn hf hfn => by
      obtain rfl : f = 3 := Option.some.inj ((show Tryd.prog.funcNamed "bobbinet/bobbinetlaw.MarksNests" = some 3 by kernel_rfl).symm.trans hf) |>.symm
      obtain rfl : fn = Tryd.f3 := (Option.some.inj (Tryd.func3.symm.trans hfn)).symm
      exact ⟨by kernel_rfl, fun j t ht => by
        have hall : (Tryd.f3.params.toList.all fun u => !Tryd.prog.wantsStandIn u) = true := by kernel_rfl
        have hm : t ∈ Tryd.f3.params.toList := by simpa using Array.mem_of_getElem? ht
        exact (show Tryd.prog.wantsStandIn t = false by simpa using List.all_eq_true.1 hall t hm)⟩)
    (by kernel_rfl)
end Go.Proofs.YtkkcmobnhiiacaaDoor
