/- emit.odd, emit.Check and the document's EmitFault, walked; the law EmitChecks. No conditions. -/
import Derived.Test.YtcfinfdkmpgaaaaAttrs
set_option linter.unusedSimpArgs false
set_option linter.unusedVariables false
set_option maxRecDepth 100000
namespace Go.Proofs.Ytcfinfdkmpgaaaa
open Go.RowKit

structure Tk where
  kind : Int
  name : List UInt8
  attrs : List Atr
  self : Bool
  text : List UInt8
def tokA (t : Tk) : V := .agg [.int .i64 t.kind, .str t.name, .lst (t.attrs.map attA), .bool t.self, .str t.text]
theorem cells_tok (l : List Tk) : ∀ y ∈ l.map tokA, y.cells.length = 5 := fun y hy => by obtain ⟨q, _, rfl⟩ := List.mem_map.1 hy; rfl
def closedP (t : Tk) (rest : List Tk) : Prop := ∃ r, rest[0]? = some r ∧ r.kind = 2 ∧ r.name = t.name
def oddP (t : Tk) (last : Int) (rest : List Tk) : Prop :=
  (t.kind = 1 ∧ (t.text ≠ [] ∨ (t.name ∈ rawL ∧ ¬ closedP t rest))) ∨ (t.kind = 2 ∧ (0 < t.attrs.length ∨ t.self = true ∨ t.text ≠ [])) ∨
  (t.kind = 3 ∧ (t.text = [] ∨ t.name ≠ [] ∨ 0 < t.attrs.length ∨ t.self = true ∨ last = 3)) ∨ (t.kind ≠ 1 ∧ t.kind ≠ 2 ∧ t.kind ≠ 3)
open Classical in
noncomputable def oddB (t : Tk) (last : Int) (rest : List Tk) : Bool := decide (oddP t last rest)
open Classical in
theorem odd_t {t : Tk} {last : Int} {rest : List Tk} (h : oddP t last rest) : true = oddB t last rest := by unfold oddB; exact (decide_eq_true h).symm
open Classical in
theorem odd_f {t : Tk} {last : Int} {rest : List Tk} (h : ¬ oddP t last rest) : false = oddB t last rest := by unfold oddB; exact (decide_eq_false h).symm

theorem emit_odd (t : Tk) (last : Int) (rest : List Tk) : Fn1 Try.prog 51 [tokA t, .int .i64 last, .lst (rest.map tokA)] (fun r => r = .bool (oddB t last rest)) := by
  have hlm : (rest.map tokA).length = rest.length := by simp
  have ham : (t.attrs.map attA).length = t.attrs.length := by simp
  have hr : 0 < rest.length → ∃ r, rest[0]? = some r := fun h => ⟨_, List.getElem?_eq_getElem h⟩
  cases hrest : rest[0]? with
  | none =>
    have hz : rest.length = 0 := by have := List.getElem?_eq_none_iff.1 hrest; omega
    have hnc : ¬ closedP t rest := fun ⟨r, h, _⟩ => by rw [hrest] at h; cases h
    refine fn1E (T := Try.tt) Try.func51 rfl tt_all follows_all ?_ ?_ fun C hC hE => ?_
    · kernel_rfl
    · exact Nat.le_of_ble_eq_true (by kernel_rfl)
    conv => whnf
    repeat' (first | (refine brd_t (by first | assumption | omega) ?_; conv => whnf) | (refine brd_f (by first | assumption | omega) ?_; conv => whnf) | (refine ask (by first | assumption | omega) ?_; conv => whnf) | (refine fit64 (by omega) ?_; conv => whnf) | (refine fit (by simp only [kmin, kmax]; omega) ?_; conv => whnf) | (refine br_t (by assumption) ?_; conv => whnf) | (refine br_f (by assumption) ?_; conv => whnf) | (refine get_of (by assumption) ?_; conv => whnf) | (refine get_map (by assumption) ?_; conv => whnf) | (refine call_eq (emit_raw _) hC hasBody_85 ?_ ?_ ?_; kernel_rfl; kernel_rfl; conv => whnf) | (refine callq_eq (emit_raw _) hC hasBody_85 ?_ ?_ ?_; kernel_rfl; kernel_rfl; conv => whnf) | (refine brd (fun h => ?_) (fun h => ?_) <;> conv => whnf) | (refine br (fun h => ?_) (fun h => ?_) <;> conv => whnf) | (refine ret_now hE ?_; conv => whnf) | (intro hlen; conv => whnf))
    all_goals
      refine ⟨rfl, congrArg V.bool ?_⟩
      first
        | exact odd_t (by unfold oddP; simp_all)
        | exact odd_f (by unfold oddP; simp_all)
        | exact odd_t (by unfold oddP; omega)
        | exact odd_f (by unfold oddP; omega)
        | exact odd_t (by unfold oddP; simp_all; omega)
        | exact odd_f (by unfold oddP; simp_all; omega)
        | skip
  | some r =>
    have hz : 0 < rest.length := (List.getElem?_eq_some_iff.1 hrest).1
    have hnc : closedP t rest ↔ (r.kind = 2 ∧ r.name = t.name) := ⟨fun ⟨r', h, h2⟩ => by rw [hrest] at h; cases h; exact h2, fun h => ⟨r, hrest, h⟩⟩
    refine fn1E (T := Try.tt) Try.func51 rfl tt_all follows_all ?_ ?_ fun C hC hE => ?_
    · kernel_rfl
    · exact Nat.le_of_ble_eq_true (by kernel_rfl)
    conv => whnf
    repeat' (first | (refine brd_t (by first | assumption | omega) ?_; conv => whnf) | (refine brd_f (by first | assumption | omega) ?_; conv => whnf) | (refine ask (by first | assumption | omega) ?_; conv => whnf) | (refine fit64 (by omega) ?_; conv => whnf) | (refine fit (by simp only [kmin, kmax]; omega) ?_; conv => whnf) | (refine br_t (by assumption) ?_; conv => whnf) | (refine br_f (by assumption) ?_; conv => whnf) | (refine get_of (by assumption) ?_; conv => whnf) | (refine get_map (by assumption) ?_; conv => whnf) | (refine call_eq (emit_raw _) hC hasBody_85 ?_ ?_ ?_; kernel_rfl; kernel_rfl; conv => whnf) | (refine callq_eq (emit_raw _) hC hasBody_85 ?_ ?_ ?_; kernel_rfl; kernel_rfl; conv => whnf) | (refine brd (fun h => ?_) (fun h => ?_) <;> conv => whnf) | (refine br (fun h => ?_) (fun h => ?_) <;> conv => whnf) | (refine ret_now hE ?_; conv => whnf) | (intro hlen; conv => whnf))
    all_goals
      refine ⟨rfl, congrArg V.bool ?_⟩
      first
        | exact odd_t (by unfold oddP; simp_all)
        | exact odd_f (by unfold oddP; simp_all)
        | exact odd_t (by unfold oddP; omega)
        | exact odd_f (by unfold oddP; omega)
        | exact odd_t (by unfold oddP; simp_all; omega)
        | exact odd_f (by unfold oddP; simp_all; omega)
        | skip

/-! ### The first code that is no 0 -/
def firstC (f : Nat → Int) (n : Nat) : Int := (((List.range n).map f).find? (fun c => decide (c ≠ 0))).getD 0
theorem firstC_hit {f : Nat → Int} {n k : Nat} {c : Int} (hk : k < n) (hj : ∀ j < k, f j = 0) (hc : f k = c) (h0 : c ≠ 0) : firstC f n = c := by
  unfold firstC
  have : ((List.range n).map f).find? (fun c => decide (c ≠ 0)) = some c := by
    rw [List.find?_eq_some_iff_getElem]
    refine ⟨by simpa using h0, k, by simpa using hk, by simpa using hc, fun j hjk => ?_⟩
    simp [hj j hjk]
  rw [this]; rfl
theorem firstC_none {f : Nat → Int} {n : Nat} (hj : ∀ j < n, f j = 0) : firstC f n = 0 := by
  unfold firstC
  have : ((List.range n).map f).find? (fun c => decide (c ≠ 0)) = none := by
    rw [List.find?_eq_none]
    intro c hc
    obtain ⟨j, hj', rfl⟩ := List.mem_map.1 hc
    simp [hj j (List.mem_range.1 hj')]
  rw [this]; rfl
theorem first_next {f : Nat → Int} {k : Nat} (hj : ∀ j < k, f j = 0) (hc : f k = 0) : ∀ j < k + 1, f j = 0 := fun j hjk => by
  by_cases e : j = k
  · subst e; exact hc
  · exact hj j (by omega)

/-! ### What is refused of a token -/
def lastK (l : List Tk) (k : Nat) : Int := if k = 0 then 0 else match l[k - 1]? with | some t => t.kind | none => 0
noncomputable def tokF (l : List Tk) (k : Nat) (t : Tk) : Int :=
  if t.kind < 1 ∨ 4 < t.kind then 3 else if t.kind ≤ 2 ∧ nameOk t.name = false then 5 else if t.kind ≤ 2 ∧ attrsF t.attrs ≠ 0 then attrsF t.attrs else if oddB t (lastK l k) (l.drop (k + 1)) = true then 4 else 0
noncomputable def tokAt (l : List Tk) (k : Nat) : Int := match l[k]? with | some t => tokF l k t | none => 0
noncomputable def emitCode (l : List Tk) : Int := if 300 < l.length then 1 else firstC (tokAt l) l.length
section
variable {l : List Tk} {k : Nat} {t : Tk}
theorem tokAt_eq (h : l[k]? = some t) : tokAt l k = tokF l k t := by unfold tokAt; rw [h]
theorem tokF_kind (h : t.kind < 1 ∨ 4 < t.kind) : tokF l k t = 3 := if_pos h
theorem tokF_name (h1 : 1 ≤ t.kind) (h2 : t.kind ≤ 2) (hn : nameOk t.name = false) : tokF l k t = 5 := by unfold tokF; rw [if_neg (by omega), if_pos ⟨h2, hn⟩]
theorem tokF_attrs (h1 : 1 ≤ t.kind) (h2 : t.kind ≤ 2) (hn : nameOk t.name = true) (ha : ¬ attrsF t.attrs = 0) : tokF l k t = attrsF t.attrs := by
  unfold tokF; rw [if_neg (by omega), if_neg (by simp [hn]), if_pos ⟨h2, ha⟩]
theorem tokF_rest (h1 : 1 ≤ t.kind) (h4 : t.kind ≤ 4) (hok : t.kind ≤ 2 → nameOk t.name = true ∧ attrsF t.attrs = 0) : tokF l k t = if oddB t (lastK l k) (l.drop (k + 1)) = true then 4 else 0 := by
  unfold tokF
  rw [if_neg (by omega), if_neg (fun h => by have := (hok h.1).1; rw [h.2] at this; cases this), if_neg (fun h => h.2 (hok h.1).2)]
theorem lastK_next (h : l[k]? = some t) : lastK l (k + 1) = t.kind := by unfold lastK; rw [if_neg (by omega)]; simp [h]
theorem attrsF_pos (l : List Atr) : attrsF l = 0 ∨ attrsF l = 1 ∨ attrsF l = 5 ∨ attrsF l = 8 := by unfold attrsF; (repeat' split) <;> simp
end

theorem emit_check (l : List Tk) : Fn1 Try.prog 25 [.lst (l.map tokA)] (fun r => r = .int .i64 (emitCode l)) := by
  have hlm : (l.map tokA).length = l.length := by simp
  refine fn1E (T := Try.tt) Try.func25 rfl tt_all follows_all ?_ ?_ fun C hC hE => ?_
  · kernel_rfl
  · exact Nat.le_of_ble_eq_true (by kernel_rfl)
  conv => whnf
  repeat' (first | (refine brd_t (by first | assumption | omega) ?_; conv => whnf) | (refine brd_f (by first | assumption | omega) ?_; conv => whnf) | (refine ask (by first | assumption | omega) ?_; conv => whnf) | (refine fit64 (by omega) ?_; conv => whnf) | (refine fit (by simp only [kmin, kmax]; omega) ?_; conv => whnf) | (refine br_t (by assumption) ?_; conv => whnf) | (refine br_f (by assumption) ?_; conv => whnf) | (refine get_of (by assumption) ?_; conv => whnf) | (refine get_map (by assumption) ?_; conv => whnf) | (refine brd (fun h => ?_) (fun h => ?_) <;> conv => whnf) | (refine br (fun h => ?_) (fun h => ?_) <;> conv => whnf) | (refine ret_now hE ?_; conv => whnf) | (intro hlen; conv => whnf))
  · exact ⟨rfl, by unfold emitCode; rw [if_pos (by omega)]⟩
  refine loopE (fun k : Nat => ⟨48, [(0, .lst (l.map tokA)), (3, .int .i64 (lastK l k)), (10, .lst (l.map tokA)), (11, .int .i64 (l.map tokA).length), (12, .int .i64 k)], []⟩) (fun k => k ≤ l.length ∧ ∀ j < k, tokAt l j = 0) (fun k => l.length - k) 0 hE ?_ ?_ ⟨Nat.zero_le _, fun j hj => by omega⟩ ?_
  · kernel_rfl
  · exact at_keep [0, 3, 10, 11, 12] rfl
  intro k hk
  obtain ⟨hk, hj⟩ := hk
  have h3 : ¬ 300 < l.length := by omega
  have hcode : emitCode l = firstC (tokAt l) l.length := if_neg h3
  by_cases hlt : k < l.length
  · obtain ⟨t, ht⟩ : ∃ x, l[k]? = some x := ⟨_, List.getElem?_eq_getElem hlt⟩
    have hat := tokAt_eq ht
    have hlk := lastK_next ht
    have hodd := emit_odd t (lastK l k) (l.drop (k + 1))
    conv => whnf
    repeat' (first | (refine brd_t (by first | assumption | omega) ?_; conv => whnf) | (refine brd_f (by first | assumption | omega) ?_; conv => whnf) | (refine ask (by first | assumption | omega) ?_; conv => whnf) | (refine fit64 (by omega) ?_; conv => whnf) | (refine fit (by simp only [kmin, kmax]; omega) ?_; conv => whnf) | (refine br_t (by assumption) ?_; conv => whnf) | (refine br_f (by assumption) ?_; conv => whnf) | (refine get_of (by assumption) ?_; conv => whnf) | (refine get_map (by assumption) ?_; conv => whnf) | (refine call_eq (emit_name _) hC hasBody_40 ?_ ?_ ?_; kernel_rfl; kernel_rfl; conv => whnf) | (refine callq_eq (emit_name _) hC hasBody_40 ?_ ?_ ?_; kernel_rfl; kernel_rfl; conv => whnf) | (refine call_eq (emit_attrs _) hC hasBody_50 ?_ ?_ ?_; kernel_rfl; kernel_rfl; conv => whnf) | (refine callq_eq (emit_attrs _) hC hasBody_50 ?_ ?_ ?_; kernel_rfl; kernel_rfl; conv => whnf) | (refine ⟨cells_tok l, ?_⟩; conv => whnf) | (refine callq_as hodd hC hasBody_51 ?_ ?_ ?_ ?_; (rw [List.map_drop]; rfl); kernel_rfl; kernel_rfl; conv => whnf) | (refine brd (fun h => ?_) (fun h => ?_) <;> conv => whnf) | (refine br (fun h => ?_) (fun h => ?_) <;> conv => whnf) | (refine ret_now hE ?_; conv => whnf) | (intro hlen; conv => whnf))
    all_goals first
      | exact ⟨rfl, congrArg (V.int .i64) (Eq.symm (hcode.trans (firstC_hit hlt hj (hat.trans (tokF_kind (by omega))) (by decide))))⟩
      | exact ⟨rfl, congrArg (V.int .i64) (Eq.symm (hcode.trans (firstC_hit hlt hj (hat.trans (tokF_name (by omega) (by omega) (by assumption))) (by decide))))⟩
      | exact ⟨rfl, congrArg (V.int .i64) (Eq.symm (hcode.trans (firstC_hit hlt hj (hat.trans (tokF_attrs (by omega) (by omega) (by assumption) (by assumption))) (by assumption))))⟩
      | exact ⟨rfl, congrArg (V.int .i64) (Eq.symm (hcode.trans (firstC_hit hlt hj (hat.trans ((tokF_rest (by omega) (by omega) (fun _ => by first | exact ⟨by assumption, by assumption⟩ | (exfalso; omega))).trans (if_pos (by assumption)))) (by decide))))⟩
      | exact next_wipe [0, 3, 10, 11, 12] (k + 1) (by kernel_rfl) ⟨hlt, first_next hj (hat.trans ((tokF_rest (by omega) (by omega) (fun _ => by first | exact ⟨by assumption, by assumption⟩ | (exfalso; omega))).trans (if_neg (by simp; assumption))))⟩ (by omega) (by rw [hlk]; rfl)

  · conv => whnf
    repeat' (first | (refine brd_t (by first | assumption | omega) ?_; conv => whnf) | (refine brd_f (by first | assumption | omega) ?_; conv => whnf) | (refine ask (by first | assumption | omega) ?_; conv => whnf) | (refine fit64 (by omega) ?_; conv => whnf) | (refine fit (by simp only [kmin, kmax]; omega) ?_; conv => whnf) | (refine br_t (by assumption) ?_; conv => whnf) | (refine br_f (by assumption) ?_; conv => whnf) | (refine get_of (by assumption) ?_; conv => whnf) | (refine get_map (by assumption) ?_; conv => whnf) | (refine brd (fun h => ?_) (fun h => ?_) <;> conv => whnf) | (refine br (fun h => ?_) (fun h => ?_) <;> conv => whnf) | (refine ret_now hE ?_; conv => whnf) | (intro hlen; conv => whnf))
    exact ⟨rfl, by rw [hcode, firstC_none (fun j hjl => hj j (by omega))]⟩
end Go.Proofs.Ytcfinfdkmpgaaaa
