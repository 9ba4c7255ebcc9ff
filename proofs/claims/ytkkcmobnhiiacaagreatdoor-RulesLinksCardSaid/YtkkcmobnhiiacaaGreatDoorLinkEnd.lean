/- The card RulesLinks: every input. No conditions. -/
import Derived.Test.YtkkcmobnhiiacaaGreatDoorLnkRd
import Derived.Test.YtkkcmobnhiiacaaGreatDoorFrameS
import Derived.Test.YtkkcmobnhiiacaaGreatDoorCards
set_option linter.unusedSimpArgs false
set_option linter.unusedVariables false
set_option maxRecDepth 100000
namespace Go.Proofs.YtkkcmobnhiiacaaGreatDoor
open Go.ChangeShapes Go.WideShapes Go.ChangeAt Go.RowKit

theorem rulesLinks_core : LawCoreG (fun _ : World => True) 3 Tryz.f3.params.toList (Reached Tryz.prog Tryz.f3.params.toList) := by
  refine coreG_of fun H enc W base args ds ps hval hA hlt hok => ?_
  obtain ⟨a0, v0, vs0, d0, ds0, q0, rfl, rfl, hok0, hp0, hsz0, _, hA0, hlt0, hval0⟩ := arg1_w (t := 22) (ts := [22, 23]) hval hA hlt hok (fun n => reads_strs_w n) ⟨fun _ => rfl, by kernel_rfl⟩
  obtain ⟨a1, v1, vs1, d1, ds1, q1, rfl, rfl, hok1, hp1, hsz1, _, hA1, hlt1, hval1⟩ := arg1_w (t := 22) (ts := [23]) hval0 hA0 hlt0 hok0 (fun n => reads_strs_w n) ⟨fun _ => rfl, by kernel_rfl⟩
  obtain ⟨a2, v2, vs2, d2, ds2, q2, rfl, rfl, hok2, hp2, hsz2, _, hA2, hlt2, hval2⟩ := arg1_w (t := 23) (ts := []) hval1 hA1 hlt1 hok1 (fun n => reads_nodes_w n) ⟨fun _ => rfl, by kernel_rfl⟩
  obtain ⟨rfl, rfl⟩ := arg0 hA2
  exact ⟨_, args_cons hp0 (args_cons hp1 (args_cons hp2 args_nil)), rulesLinks_law a0 hsz0 a1 hsz1 a2 hsz2⟩

theorem rulesLinks_row : Rows.RulesLinksSaid :=
  OpenClaim.holds_of_cond 3 Tryz.f3 rfl rfl rfl rfl rfl rfl rfl ⟨rfl, rfl, rfl, rfl, rfl⟩ rfl rfl rfl rfl rfl (by kernel_rfl) Tryz.func3 (by kernel_rfl)
    (of_decide_eq_true (by kernel_rfl)) (by unfold Func.isWrapper; first | (rw [if_pos (by decide +kernel)]; kernel_rfl) | (rw [if_neg (by decide +kernel)]; exact ⟨rfl, rfl⟩))
    (fun os started H enc _ F => by
      rw [OpenClaim.pre_eq_preRow]
      exact frame_laid (S := OpenSpec.ofChange Rows.rulesLinksSpec) (s := Rows.rulesLinksSpec) (laid := laidS) started (by kernel_rfl) Tryz.func3 (bt := 4) (by kernel_rfl) rfl rfl (by kernel_rfl) (fun ds hd => by
        match ds, hd with
        | [_, _, _], _ => rfl) F rfl rfl rfl (fun _ _ _ => trivial) (fun ds _ h => h)
        (witness_laidS (enc := enc) (S := OpenSpec.ofChange Rows.rulesLinksSpec) #[.slice none 0 0, .slice none 0 0, .slice none 0 0] 8 (by kernel_rfl) (x := ([.nil, .nil, .nil], [], [])) (by kernel_rfl) (fun k hk => by cases hk) (by kernel_rfl)) rulesLinks_core)

theorem rulesLinks_holds : Rows.RulesLinksCardSaid :=
  Claim7.holds_tied_plain_at .later [] [.data, .pinned] true (true, "f2f1ab366d747ceeca94cd3acfa10f90e2ae3bfb1a2e99cf14e0a74e48917390") true rulesLinks_row (fun _ h => by cases h) (by kernel_rfl) (fun _ h => by cases h) rulesLinks_row_tie rfl ⟨rfl, rfl⟩ (by kernel_rfl) rfl
    (fun f fn hf hfn => by
      obtain rfl : f = 3 := Option.some.inj ((show Tryz.prog.funcNamed "bobbinet/bobbinetlaw.RulesLinks" = some 3 by kernel_rfl).symm.trans hf) |>.symm
      obtain rfl : fn = Tryz.f3 := (Option.some.inj (Tryz.func3.symm.trans hfn)).symm
      exact ⟨by kernel_rfl, fun j t ht => by
        have hall : (Tryz.f3.params.toList.all fun u => !Tryz.prog.wantsStandIn u) = true := by kernel_rfl
        have hm : t ∈ Tryz.f3.params.toList := by simpa using Array.mem_of_getElem? ht
        exact (show Tryz.prog.wantsStandIn t = false by simpa using List.all_eq_true.1 hall t hm)⟩)
    (by kernel_rfl)
end Go.Proofs.YtkkcmobnhiiacaaGreatDoor
