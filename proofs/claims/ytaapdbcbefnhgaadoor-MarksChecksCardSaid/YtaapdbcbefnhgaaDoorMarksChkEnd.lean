/- The card MarksChecks: every input. No conditions. -/
import Derived.Test.YtaapdbcbefnhgaaDoorMarks
import Derived.Test.YtaapdbcbefnhgaaDoorFrameL
import Derived.Test.YtaapdbcbefnhgaaDoorCards
set_option linter.unusedSimpArgs false
set_option linter.unusedVariables false
set_option maxRecDepth 100000
namespace Go.Proofs.YtaapdbcbefnhgaaDoor
open Go.ChangeShapes Go.WideShapes Go.ChangeAt Go.RowKit

theorem marksChecks_law (L : List (List UInt8)) : Fn1G Tryd.prog GA 4 [.lst (L.map V.str)] (fun r => r = .bool true) := by
  have hr := marks_fault L
  refine fn1GE (T := Tryd.tt) Tryd.func4 rfl tt_all follows_all ?_ ?_ fun C hC hW hG hE => ?_
  · kernel_rfl
  · exact Nat.le_of_ble_eq_true (by kernel_rfl)
  conv => whnf
  have hc := (marks_check L).c hC hW kept_ga hG
  repeat' (first | (refine brd_t (by first | assumption | omega) ?_; conv => whnf) | (refine brd_f (by first | assumption | omega) ?_; conv => whnf) | (refine ask (by first | assumption | omega) ?_; conv => whnf) | (refine fit64 (by omega) ?_; conv => whnf) | (refine fit (by simp only [kmin, kmax]; omega) ?_; conv => whnf) | (refine br_t (by assumption) ?_; conv => whnf) | (refine br_f (by assumption) ?_; conv => whnf) | (refine get_of (by assumption) ?_; conv => whnf) | (refine get_map (by assumption) ?_; conv => whnf) | (refine callc_eq (hc) hC hasBody_11 rfl ?_ ?_ ?_; kernel_rfl; kernel_rfl; conv => whnf) | (refine callcq_eq (hc) hC hasBody_11 rfl ?_ ?_ ?_; kernel_rfl; kernel_rfl; conv => whnf) | (refine call_eq (hr) hC hasBody_12 ?_ ?_ ?_; kernel_rfl; kernel_rfl; conv => whnf) | (refine callq_eq (hr) hC hasBody_12 ?_ ?_ ?_; kernel_rfl; kernel_rfl; conv => whnf) | (refine brd_t rfl ?_; conv => whnf) | (refine draw_lex hE ?_ ?_; decide +kernel; conv => whnf) | (refine brd (fun h => ?_) (fun h => ?_) <;> conv => whnf) | (refine br (fun h => ?_) (fun h => ?_) <;> conv => whnf) | (refine ret_now hE ?_; conv => whnf) | (intro hlen; conv => whnf))
  all_goals exact ⟨rfl, rfl⟩
theorem reads_strs (n : Nat) : Reads Tryd.prog 29 (fun l : List (List UInt8) => .lst (l.map V.str)) (fun _ => True) (fun _ => 0) n := by
  cases n with
  | zero => exact Reads.zero
  | succ n => exact (reads_slice (f := V.str) (z := 1) (by kernel_rfl) cells_9 (fun _ => rfl) (by simp) (reads_str (by kernel_rfl) n)).as id (fun _ => rfl) (fun _ _ => trivial) (fun _ => Nat.zero_le _)
theorem marksChecks_core : LawCoreG GA 4 Tryd.f4.params.toList (Reached Tryd.prog Tryd.f4.params.toList) := by
  refine coreG_of fun H enc W base args ds ps hval hA hlt hok => ?_
  obtain ⟨w, v', vs', d', ds'', q', rfl, rfl, hp', _, _, hA'', _, _⟩ := arg1 (t := 29) (ts := []) hval hA hlt reads_strs ⟨fun _ => rfl, by kernel_rfl⟩
  obtain ⟨rfl, rfl⟩ := arg0 hA''
  exact ⟨_, args_cons hp' args_nil, marksChecks_law w⟩

theorem marksChecks_row : Rows.MarksChecksSaid :=
  OpenClaim.holds_of_cond 4 Tryd.f4 rfl rfl rfl rfl rfl rfl rfl ⟨rfl, rfl, rfl, rfl, rfl⟩ rfl rfl rfl rfl rfl (by kernel_rfl) Tryd.func4 (by kernel_rfl)
    (of_decide_eq_true (by kernel_rfl)) (by unfold Func.isWrapper; first | (rw [if_pos (by decide +kernel)]; kernel_rfl) | (rw [if_neg (by decide +kernel)]; exact ⟨rfl, rfl⟩))
    (fun os started H enc _ F => by
      rw [OpenClaim.pre_eq_preRow]
      exact frame_laid (S := OpenSpec.ofChange Rows.marksChecksSpec) (s := Rows.marksChecksSpec) (laid := laidM) started (by kernel_rfl) Tryd.func4 (bt := 4) (by kernel_rfl) rfl rfl (by kernel_rfl) (fun ds hd => by
        match ds, hd with
        | [_], _ => rfl) F rfl rfl rfl ga_of_laid (fun ds _ h => h)
        (witness_laidM (enc := enc) (S := OpenSpec.ofChange Rows.marksChecksSpec) #[.slice none 0 0] 8 (by kernel_rfl) (x := ([.nil], [], [])) (by kernel_rfl) (fun k hk => by cases hk) (by kernel_rfl)) marksChecks_core)

theorem marksChecks_holds : Rows.MarksChecksCardSaid :=
  Claim7.holds_tied_plain_at .later [] [.listed, .data] true (true, "0a9de3f91f5b185997b8ab58322364ed0f5108f2e783fba7ce0f3e4128235f91") false marksChecks_row (fun _ h => by cases h) (by kernel_rfl) (fun _ h => by cases h) marksChecks_row_tie rfl ⟨rfl, rfl⟩ (by kernel_rfl) rfl
    (fun f fn hf hfn => by
      obtain rfl : f = 4 := Option.some.inj ((show Tryd.prog.funcNamed "bobbinet/bobbinetlaw.MarksChecks" = some 4 by kernel_rfl).symm.trans hf) |>.symm
      obtain rfl : fn = Tryd.f4 := (Option.some.inj (Tryd.func4.symm.trans hfn)).symm
      exact ⟨by kernel_rfl, fun j t ht => by
        have hall : (Tryd.f4.params.toList.all fun u => !Tryd.prog.wantsStandIn u) = true := by kernel_rfl
        have hm : t ∈ Tryd.f4.params.toList := by simpa using Array.mem_of_getElem? ht
        exact (show Tryd.prog.wantsStandIn t = false by simpa using List.all_eq_true.1 hall t hm)⟩)
    (by kernel_rfl)
end Go.Proofs.YtaapdbcbefnhgaaDoor
