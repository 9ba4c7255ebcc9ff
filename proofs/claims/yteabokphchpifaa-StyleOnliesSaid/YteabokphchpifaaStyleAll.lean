/- The statement StyleOnlies: every input. No conditions. -/
import Derived.Test.YteabokphchpifaaStyle
import Derived.Test.YteabokphchpifaaReadW
set_option linter.unusedSimpArgs false
set_option linter.unusedVariables false
set_option maxRecDepth 100000
namespace Go.Proofs.Yteabokphchpifaa
open Go.ChangeShapes Go.WideShapes Go.ChangeAt Go.RowKit

theorem same_decls (l : List De) : Fn1 Try.prog 31 [.lst (l.map deA), .lst (l.map deA)] (fun r => r = .bool true) := by
  have hlm : (l.map deA).length = l.length := by simp
  refine fn1E (T := Try.tt) Try.func31 rfl tt_all follows_all ?_ ?_ fun C hC hE => ?_
  · kernel_rfl
  · exact Nat.le_of_ble_eq_true (by kernel_rfl)
  conv => whnf
  repeat' (first | (refine brd_t (by first | assumption | omega) ?_; conv => whnf) | (refine brd_f (by first | assumption | omega) ?_; conv => whnf) | (refine ask (by first | assumption | omega) ?_; conv => whnf) | (refine fit64 (by omega) ?_; conv => whnf) | (refine fit (by simp only [kmin, kmax]; omega) ?_; conv => whnf) | (refine br_t (by assumption) ?_; conv => whnf) | (refine br_f (by assumption) ?_; conv => whnf) | (refine get_of (by assumption) ?_; conv => whnf) | (refine get_map (by assumption) ?_; conv => whnf) | (refine brd (fun h => ?_) (fun h => ?_) <;> conv => whnf) | (refine br (fun h => ?_) (fun h => ?_) <;> conv => whnf) | (refine ret_now hE ?_; conv => whnf) | (intro hlen; conv => whnf))
  refine loopE (fun k : Nat => ⟨26, [(0, .lst (l.map deA)), (1, .lst (l.map deA)), (12, .int .i64 (l.map deA).length), (13, .int .i64 k)], []⟩) (fun k => k ≤ l.length) (fun k => l.length - k) 0 hE ?_ ?_ (Nat.zero_le _) ?_
  · kernel_rfl
  · exact at_keep [0, 1, 12, 13] rfl
  intro k hk
  by_cases hlt : k < l.length
  · obtain ⟨x, hx⟩ : ∃ x, l[k]? = some x := ⟨_, List.getElem?_eq_getElem hlt⟩
    conv => whnf
    repeat' (first | (refine brd_t (by first | assumption | omega) ?_; conv => whnf) | (refine brd_f (by first | assumption | omega) ?_; conv => whnf) | (refine ask (by first | assumption | omega) ?_; conv => whnf) | (refine fit64 (by omega) ?_; conv => whnf) | (refine fit (by simp only [kmin, kmax]; omega) ?_; conv => whnf) | (refine br_t (by assumption) ?_; conv => whnf) | (refine br_f (by assumption) ?_; conv => whnf) | (refine get_of (by assumption) ?_; conv => whnf) | (refine get_map (by assumption) ?_; conv => whnf) | (refine brd (fun h => ?_) (fun h => ?_) <;> conv => whnf) | (refine br (fun h => ?_) (fun h => ?_) <;> conv => whnf) | (refine ret_now hE ?_; conv => whnf) | (intro hlen; conv => whnf))
    all_goals first | exact next_keep [0, 1, 12, 13] (k + 1) hlt (by omega) rfl | (exfalso; simp_all; done)
  · conv => whnf
    repeat' (first | (refine brd_t (by first | assumption | omega) ?_; conv => whnf) | (refine brd_f (by first | assumption | omega) ?_; conv => whnf) | (refine ask (by first | assumption | omega) ?_; conv => whnf) | (refine fit64 (by omega) ?_; conv => whnf) | (refine fit (by simp only [kmin, kmax]; omega) ?_; conv => whnf) | (refine br_t (by assumption) ?_; conv => whnf) | (refine br_f (by assumption) ?_; conv => whnf) | (refine get_of (by assumption) ?_; conv => whnf) | (refine get_map (by assumption) ?_; conv => whnf) | (refine brd (fun h => ?_) (fun h => ?_) <;> conv => whnf) | (refine br (fun h => ?_) (fun h => ?_) <;> conv => whnf) | (refine ret_now hE ?_; conv => whnf) | (intro hlen; conv => whnf))
    exact ⟨rfl, rfl⟩
theorem styleOnlies_law (l : List De) (names : List (List UInt8)) (hsz : l.length * 32 ≤ 140737488351232) : Fn1 Try.prog 10 [.lst (l.map deA), .lst (names.map V.str)] (fun r => r = .bool true) := by
  have h1 := style_only l names hsz
  have h2 := style_only_ref l names hsz
  by_cases h40 : 40 < names.length
  · have h3 : Fn1 Try.prog 31 [.lst [], .lst []] (fun r => r = .bool true) := same_decls []
    simp only [onlyR, if_pos h40] at h1 h2
    refine fn1E (T := Try.tt) Try.func10 rfl tt_all follows_all ?_ ?_ fun C hC hE => ?_
    · kernel_rfl
    · exact Nat.le_of_ble_eq_true (by kernel_rfl)
    conv => whnf
    repeat' (first | (refine brd_t (by first | assumption | omega) ?_; conv => whnf) | (refine brd_f (by first | assumption | omega) ?_; conv => whnf) | (refine ask (by first | assumption | omega) ?_; conv => whnf) | (refine fit64 (by omega) ?_; conv => whnf) | (refine fit (by simp only [kmin, kmax]; omega) ?_; conv => whnf) | (refine br_t (by assumption) ?_; conv => whnf) | (refine br_f (by assumption) ?_; conv => whnf) | (refine get_of (by assumption) ?_; conv => whnf) | (refine get_map (by assumption) ?_; conv => whnf) | (refine call_eq (h1) hC hasBody_29 ?_ ?_ ?_; kernel_rfl; kernel_rfl; conv => whnf) | (refine callq_eq (h1) hC hasBody_29 ?_ ?_ ?_; kernel_rfl; kernel_rfl; conv => whnf) | (refine call_eq (h2) hC hasBody_30 ?_ ?_ ?_; kernel_rfl; kernel_rfl; conv => whnf) | (refine callq_eq (h2) hC hasBody_30 ?_ ?_ ?_; kernel_rfl; kernel_rfl; conv => whnf) | (refine call_eq (h3) hC hasBody_31 ?_ ?_ ?_; kernel_rfl; kernel_rfl; conv => whnf) | (refine callq_eq (h3) hC hasBody_31 ?_ ?_ ?_; kernel_rfl; kernel_rfl; conv => whnf) | (refine brd (fun h => ?_) (fun h => ?_) <;> conv => whnf) | (refine br (fun h => ?_) (fun h => ?_) <;> conv => whnf) | (refine ret_now hE ?_; conv => whnf) | (intro hlen; conv => whnf))
    all_goals exact ⟨rfl, rfl⟩
  · simp only [onlyR, if_neg h40] at h1 h2
    refine fn1E (T := Try.tt) Try.func10 rfl tt_all follows_all ?_ ?_ fun C hC hE => ?_
    · kernel_rfl
    · exact Nat.le_of_ble_eq_true (by kernel_rfl)
    conv => whnf
    repeat' (first | (refine brd_t (by first | assumption | omega) ?_; conv => whnf) | (refine brd_f (by first | assumption | omega) ?_; conv => whnf) | (refine ask (by first | assumption | omega) ?_; conv => whnf) | (refine fit64 (by omega) ?_; conv => whnf) | (refine fit (by simp only [kmin, kmax]; omega) ?_; conv => whnf) | (refine br_t (by assumption) ?_; conv => whnf) | (refine br_f (by assumption) ?_; conv => whnf) | (refine get_of (by assumption) ?_; conv => whnf) | (refine get_map (by assumption) ?_; conv => whnf) | (refine call_eq (h1) hC hasBody_29 ?_ ?_ ?_; kernel_rfl; kernel_rfl; conv => whnf) | (refine callq_eq (h1) hC hasBody_29 ?_ ?_ ?_; kernel_rfl; kernel_rfl; conv => whnf) | (refine call_eq (h2) hC hasBody_30 ?_ ?_ ?_; kernel_rfl; kernel_rfl; conv => whnf) | (refine callq_eq (h2) hC hasBody_30 ?_ ?_ ?_; kernel_rfl; kernel_rfl; conv => whnf) | (refine call_eq (same_decls _) hC hasBody_31 ?_ ?_ ?_; kernel_rfl; kernel_rfl; conv => whnf) | (refine callq_eq (same_decls _) hC hasBody_31 ?_ ?_ ?_; kernel_rfl; kernel_rfl; conv => whnf) | (refine brd (fun h => ?_) (fun h => ?_) <;> conv => whnf) | (refine br (fun h => ?_) (fun h => ?_) <;> conv => whnf) | (refine ret_now hE ?_; conv => whnf) | (intro hlen; conv => whnf))
    all_goals exact ⟨rfl, rfl⟩

theorem reads_decl (n : Nat) : ReadsW Try.prog 72 deA (fun _ => True) (fun _ => 0) n := by
  cases n with
  | zero => exact ReadsW.zero
  | succ n =>
    obtain ⟨fs, hu, hs⟩ := fields_of (P := Try.prog) (t := 72) (sig := [(9, 0), (9, 1)]) (by kernel_rfl)
    obtain ⟨f0, r0, rfl, t0, o0, hs⟩ := fields_cons hs
    obtain ⟨f1, r1, rfl, t1, o1, hs⟩ := fields_cons hs
    obtain rfl := fields_nil hs
    refine (reads_struct_w (L := 2) hu cells_72 (g := fun x : List UInt8 × List UInt8 × Unit => (V.str x.1).cells ++ ((V.str x.2.1).cells ++ [])) (fun _ => rfl)
      (reads_fs_cons_w (f := V.str) (z := 1) o0 (by rw [t0]; exact cells_9) (fun _ => rfl) (by rw [t0]; exact reads_str_w (by kernel_rfl) n)
        (reads_fs_cons_w (f := V.str) (z := 1) o1 (by rw [t1]; exact cells_9) (fun _ => rfl) (by rw [t1]; exact reads_str_w (by kernel_rfl) n) reads_fs_nil_w))).as (fun x => (⟨x.1, x.2.1⟩ : De)) (fun _ => rfl) (fun _ _ => trivial) (fun _ => Nat.zero_le _)
theorem bytes_decl : Try.prog.bytesOf 72 = 32 := by kernel_rfl
theorem reads_decls (n : Nat) : ReadsW Try.prog 47 (fun l : List De => .lst (List.map deA l)) (fun l => l.length * 32 ≤ 140737488351232) (fun _ => 0) n := by
  cases n with
  | zero => exact ReadsW.zero
  | succ n => exact (reads_slice_w (f := deA) (z := 2) (by kernel_rfl) cells_72 (fun _ => rfl) (by simp) (reads_decl n)).as id (fun _ => rfl) (fun l h => by have := h.1; rw [bytes_decl] at this; exact this) (fun _ => Nat.zero_le _)
theorem reads_strs (n : Nat) : Reads Try.prog 48 (fun l : List (List UInt8) => .lst (l.map V.str)) (fun _ => True) (fun _ => 0) n := by
  cases n with
  | zero => exact Reads.zero
  | succ n => exact (reads_slice (f := V.str) (z := 1) (by kernel_rfl) cells_9 (fun _ => rfl) (by simp) (reads_str (by kernel_rfl) n)).as id (fun _ => rfl) (fun _ _ => trivial) (fun _ => Nat.zero_le _)
theorem styleOnlies_core : LawCore 10 Try.f10.params.toList (Reached Try.prog Try.f10.params.toList) := by
  refine core_of fun H enc W base args ds ps hval hA hlt hok => ?_
  obtain ⟨a, v, vs, d, ds', q, rfl, rfl, hok', hp, hsz, _, hA', hlt', hval'⟩ := arg1_w (t := 47) (ts := [48]) hval hA hlt hok reads_decls ⟨fun _ => rfl, by kernel_rfl⟩
  obtain ⟨w, v', vs', d', ds'', q', rfl, rfl, hp', _, _, hA'', _, _⟩ := arg1 (t := 48) (ts := []) hval' hA' hlt' reads_strs ⟨fun _ => rfl, by kernel_rfl⟩
  obtain ⟨rfl, rfl⟩ := arg0 hA''
  exact ⟨_, args_cons hp (args_cons hp' args_nil), styleOnlies_law a w hsz⟩

theorem styleOnlies_said : Rows.StyleOnliesSaid :=
  OpenClaim.holds_of_wide 10 Try.f10 rfl rfl rfl rfl rfl rfl rfl ⟨rfl, rfl, rfl, rfl, rfl⟩ rfl rfl rfl rfl rfl (by kernel_rfl) Try.func10 (by kernel_rfl)
    (of_decide_eq_true (by kernel_rfl)) (by unfold Func.isWrapper; first | (rw [if_pos (by decide +kernel)]; kernel_rfl) | (rw [if_neg (by decide +kernel)]; exact ⟨rfl, rfl⟩))
    (fun os started H enc _ => frame_said (s := Rows.styleOnliesSpec) started (by kernel_rfl) Try.func10 (bt := 4) (by kernel_rfl) rfl rfl (by kernel_rfl) (fun ds hd => by
        match ds, hd with
        | [_, _], _ => rfl)
      (ChangeSpec.witness6 (enc := enc) (C := Try.checked) false ⟨#[], #[.slice none 0 0, .slice none 0 0], []⟩ 8 (by kernel_rfl) (by kernel_rfl) (by kernel_rfl) (by kernel_rfl)) styleOnlies_core)
end Go.Proofs.Yteabokphchpifaa
