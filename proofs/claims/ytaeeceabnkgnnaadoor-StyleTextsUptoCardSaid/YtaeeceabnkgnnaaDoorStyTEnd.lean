/- The card StyleTexts, where what it reads is of bulk at most 1048576: every such input. No conditions. -/
import Derived.Test.YtaeeceabnkgnnaaDoorStyTU
import Derived.Test.YtaeeceabnkgnnaaDoorFrameS
import Derived.Test.YtaeeceabnkgnnaaDoorCards
set_option linter.unusedSimpArgs false
set_option linter.unusedVariables false
set_option maxRecDepth 100000
namespace Go.Proofs.YtaeeceabnkgnnaaDoor
open Go.ChangeShapes Go.WideShapes Go.ChangeAt Go.RowKit

theorem styleTexts_law (l : List Dc) (hz : (l.map szD).sum ≤ 1048576) : Fn1G Tryd.prog GM 4 [.lst (l.map declA)] (fun r => r = .bool true) := by
  have hr := ref_text l hz
  refine fn1GE (T := Tryd.tt) Tryd.func4 rfl tt_all follows_all ?_ ?_ fun C hC hW hG hE => ?_
  · kernel_rfl
  · exact Nat.le_of_ble_eq_true (by kernel_rfl)
  conv => whnf
  have hc := (style_text l hz).c hC hW kept_gm hG
  generalize stT l = p at *
  repeat' (first | (refine brd_t (by first | assumption | omega) ?_; conv => whnf) | (refine brd_f (by first | assumption | omega) ?_; conv => whnf) | (refine ask (by first | assumption | omega) ?_; conv => whnf) | (refine fit64 (by omega) ?_; conv => whnf) | (refine fit (by simp only [kmin, kmax]; omega) ?_; conv => whnf) | (refine br_t (by assumption) ?_; conv => whnf) | (refine br_f (by assumption) ?_; conv => whnf) | (refine get_of (by assumption) ?_; conv => whnf) | (refine get_map (by assumption) ?_; conv => whnf) | (refine callc_eq (hc) hC hasBody_11 rfl ?_ ?_ ?_; kernel_rfl; kernel_rfl; conv => whnf) | (refine callcq_eq (hc) hC hasBody_11 rfl ?_ ?_ ?_; kernel_rfl; kernel_rfl; conv => whnf) | (refine call_eq (hr) hC hasBody_12 ?_ ?_ ?_; kernel_rfl; kernel_rfl; conv => whnf) | (refine callq_eq (hr) hC hasBody_12 ?_ ?_ ?_; kernel_rfl; kernel_rfl; conv => whnf) | (refine brd_t rfl ?_; conv => whnf) | (refine draw_lex hE ?_ ?_; decide +kernel; conv => whnf) | (refine brd (fun h => ?_) (fun h => ?_) <;> conv => whnf) | (refine br (fun h => ?_) (fun h => ?_) <;> conv => whnf) | (refine ret_now hE ?_; conv => whnf) | (intro hlen; conv => whnf) | (refine seg_here ?_; conv => whnf) | (refine both ?_ ?_ <;> conv => whnf))
  all_goals exact ⟨rfl, rfl⟩
theorem reads_decl (n : Nat) : Reads Tryd.prog 36 declA (fun _ => True) szD n := by
  cases n with
  | zero => exact Reads.zero
  | succ n =>
    obtain ⟨fs, hu, hs⟩ := fields_of (P := Tryd.prog) (t := 36) (sig := [(9, 0), (9, 1)]) (by kernel_rfl)
    obtain ⟨f0, r0, rfl, t0, o0, hs⟩ := fields_cons hs
    obtain ⟨f1, r1, rfl, t1, o1, hs⟩ := fields_cons hs
    obtain rfl := fields_nil hs
    refine (reads_struct (L := 2) hu cells_36 (g := fun x : List UInt8 × List UInt8 × Unit => (V.str x.1).cells ++ ((V.str x.2.1).cells ++ [])) (fun _ => rfl)
      (reads_fs_cons (f := V.str) (z := 1) o0 (by rw [t0]; exact cells_9) (fun _ => rfl) (by rw [t0]; exact reads_str (by kernel_rfl) n)
        (reads_fs_cons (f := V.str) (z := 1) o1 (by rw [t1]; exact cells_9) (fun _ => rfl) (by rw [t1]; exact reads_str (by kernel_rfl) n) reads_fs_nil))).as (fun x => ((x.1, x.2.1) : Dc)) (fun _ => rfl) (fun _ _ => trivial) (fun x => by simp [szD, szS])
theorem reads_decls (n : Nat) : Reads Tryd.prog 22 (fun l : List Dc => .lst (List.map declA l)) (fun _ => True) (fun l => (l.map szD).sum + 1) n := by
  cases n with
  | zero => exact Reads.zero
  | succ n => exact (reads_slice (f := declA) (z := 2) (by kernel_rfl) cells_36 (fun _ => rfl) (by simp) (reads_decl n)).as id (fun _ => rfl) (fun _ _ => trivial) (fun _ => Nat.le_refl _)
theorem styleTexts_core : LawCoreG GM 4 Tryd.f4.params.toList (fun H ds => Rows.uptoSmall H ds = true) := by
  refine coreG_of fun H enc W base args ds ps hval hA hlt hok => ?_
  obtain ⟨w, v', vs', d', ds'', q', rfl, rfl, hp', _, hsz, hA'', _, _⟩ := arg1 (t := 22) (ts := []) hval hA hlt reads_decls ⟨fun _ => rfl, by kernel_rfl⟩
  obtain ⟨rfl, rfl⟩ := arg0 hA''
  have hb := args_small hok
  exact ⟨_, args_cons hp' args_nil, styleTexts_law w (by omega)⟩

theorem styleTexts_row : Rows.StyleTextsUptoSaid :=
  OpenClaim.holds_of_cond 4 Tryd.f4 rfl rfl rfl rfl rfl rfl rfl ⟨rfl, rfl, rfl, rfl, rfl⟩ rfl rfl rfl rfl rfl (by kernel_rfl) Tryd.func4 (by kernel_rfl)
    (of_decide_eq_true (by kernel_rfl)) (by unfold Func.isWrapper; first | (rw [if_pos (by decide +kernel)]; kernel_rfl) | (rw [if_neg (by decide +kernel)]; exact ⟨rfl, rfl⟩))
    (fun os started H enc _ F => by
      rw [OpenClaim.pre_eq_preRow]
      exact frame_laid (S := Rows.OpenSpec.upto Rows.styleTextsSpec) (s := Rows.styleTextsSpec) (laid := laidS) started (by kernel_rfl) Tryd.func4 (bt := 4) (by kernel_rfl) rfl rfl (by kernel_rfl) (fun ds hd => by
        match ds, hd with
        | [_], _ => rfl) F rfl rfl rfl (fun W _ h => gm_of_shape W h) (fun ds h _ => h Rows.uptoSmall rfl)
        (witness_laidS (enc := enc) (S := Rows.OpenSpec.upto Rows.styleTextsSpec) #[.slice none 0 0] 8 (by kernel_rfl) (x := ([.nil], [], [])) (by kernel_rfl) (fun k hk => by cases hk; rfl) (by kernel_rfl)) styleTexts_core)

theorem styleTexts_holds : Rows.StyleTextsUptoCardSaid :=
  Claim7.holds_tied_plain_at .later [] [.data, .pinned] true (true, "e4e3b0782b4a6ee26a786b6c52e15713f0d25f39e227244fc5653d01f83727d1") true styleTexts_row (fun _ h => by cases h) (by kernel_rfl) (fun _ h => by cases h) styleTextsUpto_row_tie rfl ⟨rfl, rfl⟩ (by kernel_rfl) rfl
    (fun f fn hf hfn => by
      obtain rfl : f = 4 := Option.some.inj ((show Tryd.prog.funcNamed "bobbinet/bobbinetlaw.StyleTexts" = some 4 by kernel_rfl).symm.trans hf) |>.symm
      obtain rfl : fn = Tryd.f4 := (Option.some.inj (Tryd.func4.symm.trans hfn)).symm
      exact ⟨by kernel_rfl, fun j t ht => by
        have hall : (Tryd.f4.params.toList.all fun u => !Tryd.prog.wantsStandIn u) = true := by kernel_rfl
        have hm : t ∈ Tryd.f4.params.toList := by simpa using Array.mem_of_getElem? ht
        exact (show Tryd.prog.wantsStandIn t = false by simpa using List.all_eq_true.1 hall t hm)⟩)
    (by kernel_rfl)
end Go.Proofs.YtaeeceabnkgnnaaDoor
