/- The document's EmitFault, walked; the law EmitChecks. No conditions. -/
import Derived.Test.YtcfinfdkmpgaaaaEmit
set_option linter.unusedSimpArgs false
set_option linter.unusedVariables false
set_option maxRecDepth 100000
namespace Go.Proofs.Ytcfinfdkmpgaaaa
open Go.RowKit

theorem lastK_zero (l : List Tk) : lastK l 0 = 0 := rfl
theorem lastK_pos {l : List Tk} {k : Nat} {p : Tk} (h : 0 < k) (hp : l[k - 1]? = some p) : lastK l k = p.kind := by unfold lastK; rw [if_neg (by omega), hp]
theorem shut_some {l : List Tk} {k : Nat} {t r : Tk} (h : l[k + 1]? = some r) : closedP t (l.drop (k + 1)) ↔ (r.kind = 2 ∧ r.name = t.name) := by
  unfold closedP
  rw [List.getElem?_drop, Nat.add_zero, h]
  exact ⟨fun ⟨r', e, h2⟩ => by cases e; exact h2, fun h => ⟨r, rfl, h⟩⟩
theorem shut_none {l : List Tk} {k : Nat} {t : Tk} (h : l[k + 1]? = none) : ¬ closedP t (l.drop (k + 1)) := by
  unfold closedP
  rw [List.getElem?_drop, Nat.add_zero, h]
  rintro ⟨r, e, _⟩
  cases e
theorem raw_iff (s : List UInt8) : s ∈ rawL ↔ (s = [115, 99, 114, 105, 112, 116] ∨ s = [115, 116, 121, 108, 101] ∨ s = [116, 101, 120, 116, 97, 114, 101, 97] ∨ s = [116, 105, 116, 108, 101]) := by simp [rawL]
section
variable {l : List Tk} {k : Nat} {t : Tk}
theorem fin_odd (hlt : k < l.length) (h3 : ¬ 300 < l.length) (ht : l[k]? = some t) (hj : ∀ j < k, tokAt l j = 0) (h1 : 1 ≤ t.kind) (h4 : t.kind ≤ 4) (hok : t.kind ≤ 2 → nameOk t.name = true ∧ attrsF t.attrs = 0) (ho : oddP t (lastK l k) (l.drop (k + 1))) : emitCode l = 4 :=
  (if_neg h3).trans (firstC_hit hlt hj ((tokAt_eq ht).trans ((tokF_rest h1 h4 hok).trans (if_pos (odd_t ho).symm))) (by decide))
theorem fin_next (ht : l[k]? = some t) (hj : ∀ j < k, tokAt l j = 0) (h1 : 1 ≤ t.kind) (h4 : t.kind ≤ 4) (hok : t.kind ≤ 2 → nameOk t.name = true ∧ attrsF t.attrs = 0) (ho : ¬ oddP t (lastK l k) (l.drop (k + 1))) : ∀ j < k + 1, tokAt l j = 0 :=
  first_next hj ((tokAt_eq ht).trans ((tokF_rest h1 h4 hok).trans (if_neg (by rw [← odd_f ho]; decide))))
end
set_option maxHeartbeats 8000000 in
theorem emit_fault (l : List Tk) : Fn1 Try.prog 26 [.lst (l.map tokA)] (fun r => r = .int .i64 (emitCode l)) := by
  have hlm : (l.map tokA).length = l.length := by simp
  refine fn1E (T := Try.tt) Try.func26 rfl tt_all follows_all ?_ ?_ fun C hC hE => ?_
  · kernel_rfl
  · exact Nat.le_of_ble_eq_true (by kernel_rfl)
  conv => whnf
  repeat' (first | (refine brd_t (by first | assumption | omega) ?_; conv => whnf) | (refine brd_f (by first | assumption | omega) ?_; conv => whnf) | (refine ask (by first | assumption | omega) ?_; conv => whnf) | (refine fit64 (by omega) ?_; conv => whnf) | (refine fit (by simp only [kmin, kmax]; omega) ?_; conv => whnf) | (refine br_t (by assumption) ?_; conv => whnf) | (refine br_f (by assumption) ?_; conv => whnf) | (refine get_of (by assumption) ?_; conv => whnf) | (refine get_map (by assumption) ?_; conv => whnf) | (refine brd (fun h => ?_) (fun h => ?_) <;> conv => whnf) | (refine br (fun h => ?_) (fun h => ?_) <;> conv => whnf) | (refine ret_now hE ?_; conv => whnf) | (intro hlen; conv => whnf))
  · exact ⟨rfl, by unfold emitCode; rw [if_pos (by omega)]⟩
  refine loopE (fun k : Nat => ⟨160, [(0, .lst (l.map tokA)), (10, .lst (l.map tokA)), (11, .int .i64 (l.map tokA).length), (12, .int .i64 k)], []⟩) (fun k => k ≤ l.length ∧ ∀ j < k, tokAt l j = 0) (fun k => l.length - k) 0 hE ?_ ?_ ⟨Nat.zero_le _, fun j hj => by omega⟩ ?_
  · kernel_rfl
  · exact at_keep [0, 10, 11, 12] rfl
  intro k hk
  obtain ⟨hk, hj⟩ := hk
  have h3 : ¬ 300 < l.length := by omega
  have hcode : emitCode l = firstC (tokAt l) l.length := if_neg h3
  by_cases hlt : k < l.length
  · obtain ⟨t, ht⟩ : ∃ x, l[k]? = some x := ⟨_, List.getElem?_eq_getElem hlt⟩
    have hat := tokAt_eq ht
    have ham : (t.attrs.map attA).length = t.attrs.length := by simp
    have hraw := raw_iff t.name
    have hprev : (k = 0 ∧ lastK l k = 0) ∨ (0 < k ∧ ∃ p : Tk, l[((k : Int) - 1).toNat]? = some p ∧ lastK l k = p.kind) := by
      rcases Nat.eq_zero_or_pos k with h | h
      · exact .inl ⟨h, by rw [h]; rfl⟩
      · refine .inr ⟨h, l[k - 1]'(by omega), ?_, lastK_pos h (List.getElem?_eq_getElem (by omega))⟩
        rw [show ((k : Int) - 1).toNat = k - 1 by omega]
        exact List.getElem?_eq_getElem (by omega)
    have hnext : (l.length = k + 1 ∧ ¬ closedP t (l.drop (k + 1))) ∨ (∃ r, l[k + 1]? = some r ∧ k + 1 < l.length ∧ (closedP t (l.drop (k + 1)) ↔ (r.kind = 2 ∧ r.name = t.name))) := by
      cases hn : l[k + 1]? with
      | none => exact .inl ⟨by have := List.getElem?_eq_none_iff.1 hn; omega, shut_none hn⟩
      | some r => exact .inr ⟨r, rfl, (List.getElem?_eq_some_iff.1 hn).1, shut_some hn⟩
    rcases hprev with ⟨h0, hlk⟩ | ⟨h0, p, hp, hlk⟩ <;> rcases hnext with ⟨hl2, hcl⟩ | ⟨r, hn, hl2, hcl⟩
    all_goals
      conv => whnf
      repeat' (first | (refine brd_t (by first | assumption | omega) ?_; conv => whnf) | (refine brd_f (by first | assumption | omega) ?_; conv => whnf) | (refine ask (by first | assumption | omega) ?_; conv => whnf) | (refine fit64 (by omega) ?_; conv => whnf) | (refine fit (by simp only [kmin, kmax]; omega) ?_; conv => whnf) | (refine br_t (by assumption) ?_; conv => whnf) | (refine br_f (by assumption) ?_; conv => whnf) | (refine get_of (by assumption) ?_; conv => whnf) | (refine get_map (by assumption) ?_; conv => whnf) | (refine call_eq (name_may _) hC hasBody_43 ?_ ?_ ?_; kernel_rfl; kernel_rfl; conv => whnf) | (refine callq_eq (name_may _) hC hasBody_43 ?_ ?_ ?_; kernel_rfl; kernel_rfl; conv => whnf) | (refine call_eq (attrs_fault _) hC hasBody_52 ?_ ?_ ?_; kernel_rfl; kernel_rfl; conv => whnf) | (refine callq_eq (attrs_fault _) hC hasBody_52 ?_ ?_ ?_; kernel_rfl; kernel_rfl; conv => whnf) | (refine brd (fun h => ?_) (fun h => ?_) <;> conv => whnf) | (refine br (fun h => ?_) (fun h => ?_) <;> conv => whnf) | (refine ret_now hE ?_; conv => whnf) | (intro hlen; conv => whnf))
      all_goals first
          | exact ⟨rfl, congrArg (V.int .i64) (Eq.symm (hcode.trans (firstC_hit hlt hj (hat.trans (tokF_kind (by omega))) (by decide))))⟩
          | exact ⟨rfl, congrArg (V.int .i64) (Eq.symm (hcode.trans (firstC_hit hlt hj (hat.trans (tokF_name (by omega) (by omega) (by assumption))) (by decide))))⟩
          | exact ⟨rfl, congrArg (V.int .i64) (Eq.symm (hcode.trans (firstC_hit hlt hj (hat.trans (tokF_attrs (by omega) (by omega) (by assumption) (by assumption))) (by assumption))))⟩
          | exact ⟨rfl, congrArg (V.int .i64) (Eq.symm (fin_odd hlt h3 ht hj (by omega) (by omega) (fun _ => by first | exact ⟨by assumption, by assumption⟩ | (exfalso; omega)) (by unfold oddP; first | omega | (simp_all; done) | (simp_all; omega))))⟩
          | exact next_wipe [0, 10, 11, 12] (k + 1) (by kernel_rfl) ⟨hlt, fin_next ht hj (by omega) (by omega) (fun _ => by first | exact ⟨by assumption, by assumption⟩ | (exfalso; omega)) (by unfold oddP; first | omega | (simp_all; done) | (simp_all; omega))⟩ (by omega) rfl
          | trace_state
  · conv => whnf
    repeat' (first | (refine brd_t (by first | assumption | omega) ?_; conv => whnf) | (refine brd_f (by first | assumption | omega) ?_; conv => whnf) | (refine ask (by first | assumption | omega) ?_; conv => whnf) | (refine fit64 (by omega) ?_; conv => whnf) | (refine fit (by simp only [kmin, kmax]; omega) ?_; conv => whnf) | (refine br_t (by assumption) ?_; conv => whnf) | (refine br_f (by assumption) ?_; conv => whnf) | (refine get_of (by assumption) ?_; conv => whnf) | (refine get_map (by assumption) ?_; conv => whnf) | (refine brd (fun h => ?_) (fun h => ?_) <;> conv => whnf) | (refine br (fun h => ?_) (fun h => ?_) <;> conv => whnf) | (refine ret_now hE ?_; conv => whnf) | (intro hlen; conv => whnf))
    exact ⟨rfl, by rw [hcode, firstC_none (fun j hjl => hj j (by omega))]⟩
end Go.Proofs.Ytcfinfdkmpgaaaa
