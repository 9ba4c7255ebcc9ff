/- The statement EmitTexts, where what it reads is of bulk at most 1048576: every such input. No conditions. -/
import Derived.Test.YtcfinfdkmpgaaaaEmitText
set_option linter.unusedSimpArgs false
set_option linter.unusedVariables false
set_option maxRecDepth 100000
namespace Go.Proofs.Ytcfinfdkmpgaaaa
open Go.ChangeShapes Go.WideShapes Go.ChangeAt Go.RowKit

def szT (t : Tk) : Nat := szS t.name + ((t.attrs.map szA).sum + 1) + szS t.text
theorem reads_tok_s (n : Nat) : Reads Try.prog 81 tokA (fun _ => True) szT n := by
  cases n with
  | zero => exact Reads.zero
  | succ n =>
    obtain ⟨fs, hu, hs⟩ := fields_of (P := Try.prog) (t := 81) (sig := [(3, 0), (9, 1), (74, 2), (4, 3), (9, 4)]) (by kernel_rfl)
    obtain ⟨f0, r0, rfl, t0, o0, hs⟩ := fields_cons hs
    obtain ⟨f1, r1, rfl, t1, o1, hs⟩ := fields_cons hs
    obtain ⟨f2, r2, rfl, t2, o2, hs⟩ := fields_cons hs
    obtain ⟨f3, r3, rfl, t3, o3, hs⟩ := fields_cons hs
    obtain ⟨f4, r4, rfl, t4, o4, hs⟩ := fields_cons hs
    obtain rfl := fields_nil hs
    refine (reads_struct (L := 5) hu cells_81 (g := fun x : Int × List UInt8 × List Atr × Bool × List UInt8 × Unit => (V.int .i64 x.1).cells ++ ((V.str x.2.1).cells ++ ((V.lst (List.map attA x.2.2.1)).cells ++ ((V.bool x.2.2.2.1).cells ++ ((V.str x.2.2.2.2.1).cells ++ []))))) (fun _ => rfl)
      (reads_fs_cons (f := V.int .i64) (z := 1) o0 (by rw [t0]; exact cells_3) (fun _ => rfl) (by rw [t0]; exact reads_int (k := .i64) (by kernel_rfl) n)
        (reads_fs_cons (f := V.str) (z := 1) o1 (by rw [t1]; exact cells_9) (fun _ => rfl) (by rw [t1]; exact reads_str (by kernel_rfl) n)
          (reads_fs_cons (f := fun l : List Atr => .lst (List.map attA l)) (z := 1) o2 (by rw [t2]; exact cells_74) (fun _ => rfl) (by rw [t2]; exact reads_atts n)
            (reads_fs_cons (f := V.bool) (z := 1) o3 (by rw [t3]; exact cells_4) (fun _ => rfl) (by rw [t3]; exact reads_bool (by kernel_rfl) n)
              (reads_fs_cons (f := V.str) (z := 1) o4 (by rw [t4]; exact cells_9) (fun _ => rfl) (by rw [t4]; exact reads_str (by kernel_rfl) n) reads_fs_nil)))))).as
      (fun x => (⟨x.1, x.2.1, x.2.2.1, x.2.2.2.1, x.2.2.2.2.1⟩ : Tk)) (fun x => rfl) (fun _ _ => trivial) (fun x => by simp only [szT, szS]; omega)
theorem reads_toks_s (n : Nat) : Reads Try.prog 46 (fun l : List Tk => .lst (l.map tokA)) (fun _ => True) (fun l => (l.map szT).sum + 1) n := by
  cases n with
  | zero => exact Reads.zero
  | succ n => exact (reads_slice (f := tokA) (z := 5) (by kernel_rfl) cells_81 (fun _ => rfl) (by simp) (reads_tok_s n)).as id (fun _ => rfl) (fun _ _ => trivial) (fun _ => Nat.le_refl _)
theorem fit_of_sz {l : List Tk} (h : (l.map szT).sum + 1 ≤ 1048576) : ∀ t ∈ l, fitT t := by
  intro t ht
  have h1 := mem_sum szT l t ht
  have e1 : szT t = (t.name.length + 1) + ((t.attrs.map szA).sum + 1) + (t.text.length + 1) := rfl
  refine ⟨by omega, by omega, fun a ha => ?_⟩
  have h2 := mem_sum szA t.attrs a ha
  have e2 : szA a = (a.name.length + 1) + (a.value.length + 1) + 1 := rfl
  omega

theorem emitTexts_core : LawCore 11 Try.f11.params.toList (fun H ds => Rows.uptoSmall H ds = true) := by
  refine core_of fun H enc W base args ds ps hval hA hlt hok => ?_
  obtain ⟨a, v, vs, d, ds', q, rfl, rfl, hp, _, hsz, hA', _, _⟩ := arg1 (t := 46) (ts := []) hval hA hlt reads_toks_s ⟨fun _ => rfl, by kernel_rfl⟩
  obtain ⟨rfl, rfl⟩ := arg0 hA'
  have hb : Rows.uptoBulk d ≤ 1048576 := by
    simpa [Rows.uptoSmall, Rows.uptoBulkAll] using of_decide_eq_true hok
  exact ⟨_, args_cons hp args_nil, emitTexts_law a (fit_of_sz (Nat.le_trans hsz hb))⟩

theorem emitTexts_holds : Rows.EmitTextsUptoSaid :=
  OpenClaim.holds_of_cond 11 Try.f11 rfl rfl rfl rfl rfl rfl rfl ⟨rfl, rfl, rfl, rfl, rfl⟩ rfl rfl rfl rfl rfl (by kernel_rfl) Try.func11 (by kernel_rfl)
    (of_decide_eq_true (by kernel_rfl)) (by unfold Func.isWrapper; first | (rw [if_pos (by decide +kernel)]; kernel_rfl) | (rw [if_neg (by decide +kernel)]; exact ⟨rfl, rfl⟩))
    (fun os started H enc _ F => frame_upto (s := Rows.emitTextsSpec) started (by kernel_rfl) Try.func11 (bt := 4) (by kernel_rfl) rfl rfl (by kernel_rfl) (fun ds hd => by
        match ds, hd with
        | [_], _ => rfl) F
      (OpenSpec.witness (enc := enc) (C := Try.checked) (s := Rows.OpenSpec.upto Rows.emitTextsSpec) (k := Rows.uptoSmall) rfl false ⟨#[], #[.slice none 0 0], []⟩ 8 (by kernel_rfl) (by kernel_rfl) (by kernel_rfl)
        (x := ([.nil], [], [])) (by kernel_rfl) rfl (by kernel_rfl)) emitTexts_core)
end Go.Proofs.Ytcfinfdkmpgaaaa
