/- expr.Check, expr.Print and the document's answers, walked; the laws ExprChecks, ExprPrints. No conditions. -/
import Derived.Test.YteappcclfjafeaaExprT
set_option linter.unusedSimpArgs false
set_option linter.unusedVariables false
set_option maxRecDepth 100000
namespace Go.Proofs.Yteappcclfjafeaa
open Go.RowKit Go.ChangeShapes Go.WideShapes Go.ChangeAt

def exC (x : Ex) : Int := if exF x ≠ 0 then exF x else if 40 < (exT x).length then 1 else 0
theorem exW_zero (x : Ex) : exW 0 x = exT x := by
  unfold exW
  rw [if_neg (by unfold wrapB; rw [decide_eq_true_eq]; omega)]
def exG (x : Ex) : List V := [.int .i64 x.kind, .int .i64 x.type, .lst (exRL x.parts)]
theorem exG_mk (x : Ex) : V.agg (exG x) = .agg [.int .i64 x.kind, .int .i64 x.type, .lst (x.parts.map exA)] := by unfold exG; rw [exRL_map]
theorem ex_eta (x : Ex) : Ex.mk x.kind x.type x.parts = x := by cases x; rfl
theorem expr_check (x : Ex) (hx : szE x ≤ 1048576) : Fn1 Try.prog 27 [.agg (exG x)] (fun r => r = .int .i64 (exC x)) := by
  rw [exG_mk]
  have hsz : szEL x.parts ≤ 1048576 := by cases x; rw [szE_mk] at hx; show szEL _ ≤ _; simp only [Ex.parts]; omega
  have h1 := expr_fault (szEL x.parts) x.kind x.type x.parts (Nat.le_refl _)
  have h2 := expr_text (szEL x.parts) x.kind x.type x.parts (Nat.le_refl _) hsz
  have hl := exT_len (szE x) x (Nat.le_refl _)
  rw [ex_eta] at h1 h2
  refine fn1E (T := Try.tt) Try.func27 rfl tt_all follows_all ?_ ?_ fun C hC hE => ?_
  · kernel_rfl
  · exact Nat.le_of_ble_eq_true (by kernel_rfl)
  conv => whnf
  repeat' (first | (refine brd_t (by first | assumption | omega) ?_; conv => whnf) | (refine brd_f (by first | assumption | omega) ?_; conv => whnf) | (refine ask (by first | assumption | omega) ?_; conv => whnf) | (refine fit64 (by omega) ?_; conv => whnf) | (refine fit (by simp only [kmin, kmax]; omega) ?_; conv => whnf) | (refine br_t (by assumption) ?_; conv => whnf) | (refine br_f (by assumption) ?_; conv => whnf) | (refine get_of (by assumption) ?_; conv => whnf) | (refine get_map (by assumption) ?_; conv => whnf) | (refine call_eq (h1) hC hasBody_44 ?_ ?_ ?_; kernel_rfl; kernel_rfl; conv => whnf) | (refine callq_eq (h1) hC hasBody_44 ?_ ?_ ?_; kernel_rfl; kernel_rfl; conv => whnf) | (refine call_eq (h2 (by omega)) hC hasBody_45 ?_ ?_ ?_; kernel_rfl; kernel_rfl; conv => whnf) | (refine callq_eq (h2 (by omega)) hC hasBody_45 ?_ ?_ ?_; kernel_rfl; kernel_rfl; conv => whnf) | (refine draw_lex hE ?_ ?_; decide +kernel; conv => whnf) | (refine brd (fun h => ?_) (fun h => ?_) <;> conv => whnf) | (refine br (fun h => ?_) (fun h => ?_) <;> conv => whnf) | (refine ret_now hE ?_; conv => whnf) | (intro hlen; conv => whnf) | (refine seg_here ?_; conv => whnf) | (refine both ?_ ?_ <;> conv => whnf))
  all_goals (refine ⟨rfl, congrArg (V.int .i64) ?_⟩; unfold exC; (repeat' split); all_goals first | rfl | omega)
theorem doc_check (x : Ex) (hx : szE x ≤ 1048576) : Fn1 Try.prog 29 [.agg (exG x)] (fun r => r = .int .i64 (exC x)) := by
  rw [exG_mk]
  have hsz : szEL x.parts ≤ 1048576 := by cases x; rw [szE_mk] at hx; show szEL _ ≤ _; simp only [Ex.parts]; omega
  have h1 := doc_fault (szEL x.parts) x.kind x.type x.parts (Nat.le_refl _)
  have h2 := doc_text (szEL x.parts) x.kind x.type x.parts 0 (by decide) (Nat.le_refl _) hsz
  have hl := exT_len (szE x) x (Nat.le_refl _)
  rw [ex_eta] at h1 h2
  rw [exW_zero] at h2
  refine fn1E (T := Try.tt) Try.func29 rfl tt_all follows_all ?_ ?_ fun C hC hE => ?_
  · kernel_rfl
  · exact Nat.le_of_ble_eq_true (by kernel_rfl)
  conv => whnf
  repeat' (first | (refine brd_t (by first | assumption | omega) ?_; conv => whnf) | (refine brd_f (by first | assumption | omega) ?_; conv => whnf) | (refine ask (by first | assumption | omega) ?_; conv => whnf) | (refine fit64 (by omega) ?_; conv => whnf) | (refine fit (by simp only [kmin, kmax]; omega) ?_; conv => whnf) | (refine br_t (by assumption) ?_; conv => whnf) | (refine br_f (by assumption) ?_; conv => whnf) | (refine get_of (by assumption) ?_; conv => whnf) | (refine get_map (by assumption) ?_; conv => whnf) | (refine call_eq (h1) hC hasBody_48 ?_ ?_ ?_; kernel_rfl; kernel_rfl; conv => whnf) | (refine callq_eq (h1) hC hasBody_48 ?_ ?_ ?_; kernel_rfl; kernel_rfl; conv => whnf) | (refine call_eq (h2 (by omega)) hC hasBody_49 ?_ ?_ ?_; kernel_rfl; kernel_rfl; conv => whnf) | (refine callq_eq (h2 (by omega)) hC hasBody_49 ?_ ?_ ?_; kernel_rfl; kernel_rfl; conv => whnf) | (refine draw_lex hE ?_ ?_; decide +kernel; conv => whnf) | (refine brd (fun h => ?_) (fun h => ?_) <;> conv => whnf) | (refine br (fun h => ?_) (fun h => ?_) <;> conv => whnf) | (refine ret_now hE ?_; conv => whnf) | (intro hlen; conv => whnf) | (refine seg_here ?_; conv => whnf) | (refine both ?_ ?_ <;> conv => whnf))
  all_goals (refine ⟨rfl, congrArg (V.int .i64) ?_⟩; unfold exC; (repeat' split); all_goals first | rfl | omega)
theorem exC_ok {x : Ex} (h : exC x = 0) : exF x = 0 := by
  unfold exC at h
  split at h
  · contradiction
  · omega
/-! ### As an argument -/
theorem reads_ex_both (n : Nat) : Reads Try.prog 32 exA (fun _ => True) szE n ∧ Reads Try.prog 30 (fun l : List Ex => .lst (l.map exA)) (fun _ => True) (fun l => szEL l + 1) n := by
  induction n with
  | zero => exact ⟨Reads.zero, Reads.zero⟩
  | succ n ih =>
    refine ⟨?_, (reads_slice (f := exA) (z := 3) (by kernel_rfl) cells_32 exA_cells (by simp) ih.1).as id (fun _ => rfl) (fun _ _ => trivial) (fun l => by rw [szEL_sum]; exact Nat.le_refl _)⟩
    obtain ⟨fs, hu, hs⟩ := fields_of (P := Try.prog) (t := 32) (sig := [(3, 0), (3, 1), (30, 2)]) (by kernel_rfl)
    obtain ⟨f0, r0, rfl, t0, o0, hs⟩ := fields_cons hs
    obtain ⟨f1, r1, rfl, t1, o1, hs⟩ := fields_cons hs
    obtain ⟨f2, r2, rfl, t2, o2, hs⟩ := fields_cons hs
    obtain rfl := fields_nil hs
    refine (reads_struct (L := 3) hu cells_32 (g := fun x : Int × Int × List Ex × Unit => (V.int .i64 x.1).cells ++ ((V.int .i64 x.2.1).cells ++ ((V.lst (x.2.2.1.map exA)).cells ++ []))) (fun _ => rfl)
      (reads_fs_cons (f := V.int .i64) (z := 1) o0 (by rw [t0]; exact cells_3) (fun _ => rfl) (by rw [t0]; exact reads_int (k := .i64) (by kernel_rfl) n)
        (reads_fs_cons (f := V.int .i64) (z := 1) o1 (by rw [t1]; exact cells_3) (fun _ => rfl) (by rw [t1]; exact reads_int (k := .i64) (by kernel_rfl) n)
          (reads_fs_cons (f := fun l : List Ex => .lst (l.map exA)) (z := 1) o2 (by rw [t2]; exact cells_30) (fun _ => rfl) (by rw [t2]; exact ih.2) reads_fs_nil)))).as
      (fun x => Ex.mk x.1 x.2.1 x.2.2.1) (fun x => by rw [exA_mk]; rfl) (fun _ _ => trivial) (fun x => by rw [szE_mk]; omega)
theorem reads_ex (n : Nat) : Reads Try.prog 32 (fun x : Ex => .agg (exG x)) (fun _ => True) szE n := (reads_ex_both n).1
theorem law_arg {f : FuncId} (hlaw : ∀ x : Ex, szE x ≤ 1048576 → Fn1 Try.prog f [.agg (exG x)] (fun r => r = .bool true)) : LawCore f [32] (fun H ds => Rows.uptoSmall H ds = true) := by
  refine core_of fun H enc W base args ds ps hval hA hlt hok => ?_
  obtain ⟨a, v, vs, d, ds', q, rfl, rfl, hp, _, hsz, hA', hlt', hval'⟩ := argS (t := 32) (ts := []) hval hA hlt reads_ex (by kernel_rfl)
  obtain ⟨rfl, rfl⟩ := arg0 hA'
  have hb : Rows.uptoBulk d ≤ 1048576 := by
    simpa [Rows.uptoSmall, Rows.uptoBulkAll] using of_decide_eq_true hok
  exact ⟨_, args_cons hp args_nil, hlaw a (by omega)⟩
end Go.Proofs.Yteappcclfjafeaa
