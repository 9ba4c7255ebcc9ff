/- The functions that the law RulesChecks reaches, walked. No conditions. -/
import Derived.Test.YteekfmflecgjmaaNameMay
set_option linter.unusedSimpArgs false
set_option linter.unusedVariables false
set_option maxRecDepth 100000
namespace Go.Proofs.Yteekfmflecgjmaa
open Go.RowKit

abbrev Ru := List UInt8 × Int × List UInt8
def ruleC (x : Ru) : List V := [.str x.1, .int .i64 x.2.1, .str x.2.2]
def ruleA (x : Ru) : V := .agg (ruleC x)
def rulesV (l : List Ru) : V := .lst (l.map ruleA)
/-- What is refused of a rule behind others. -/
def rfault (pre : List Ru) (x : Ru) : Int :=
  if nameOk x.1 = false then 5
  else if x.2.1 < 1 ∨ 3 < x.2.1 then 3
  else if x.2.1 = 1 ∧ nameOk x.2.2 = false then 5
  else if x.2.1 ≠ 1 ∧ x.2.2 ≠ [] then 4
  else if pre.any (fun q => decide (q.1 = x.1)) then 8
  else 0
def faultAt (l : List Ru) (k : Nat) : Int := match l[k]? with | some x => rfault (l.take k) x | none => 0
def rulesCode (l : List Ru) : Int := if 12 < l.length then 1 else (((List.range l.length).map (faultAt l)).find? (fun c => decide (c ≠ 0))).getD 0
theorem code_big {l : List Ru} (h : 12 < l.length) : rulesCode l = 1 := if_pos h
theorem code_hit {l : List Ru} {k : Nat} {x : Ru} {c : Int} (h : ¬ 12 < l.length) (hx : l[k]? = some x) (hj : ∀ j < k, faultAt l j = 0) (hc : rfault (l.take k) x = c) (h0 : c ≠ 0) : rulesCode l = c := by
  have hlt : k < l.length := (List.getElem?_eq_some_iff.1 hx).1
  have hk : faultAt l k = c := by unfold faultAt; rw [hx]; exact hc
  unfold rulesCode
  rw [if_neg h]
  have : ((List.range l.length).map (faultAt l)).find? (fun c => decide (c ≠ 0)) = some c := by
    rw [List.find?_eq_some_iff_getElem]
    refine ⟨by simpa using h0, k, by simpa using hlt, by simpa using hk, fun j hjk => ?_⟩
    simp [hj j hjk]
  rw [this]; rfl
theorem code_none {l : List Ru} (h : ¬ 12 < l.length) (hj : ∀ j < l.length, faultAt l j = 0) : rulesCode l = 0 := by
  unfold rulesCode
  rw [if_neg h]
  have : ((List.range l.length).map (faultAt l)).find? (fun c => decide (c ≠ 0)) = none := by
    rw [List.find?_eq_none]
    intro c hc
    obtain ⟨j, hj', rfl⟩ := List.mem_map.1 hc
    simp [hj j (List.mem_range.1 hj')]
  rw [this]; rfl
theorem fault_next {l : List Ru} {k : Nat} {x : Ru} (hx : l[k]? = some x) (hj : ∀ j < k, faultAt l j = 0) (h : rfault (l.take k) x = 0) : ∀ j < k + 1, faultAt l j = 0 := fun j hjk => by
  by_cases e : j = k
  · subst e; unfold faultAt; rw [hx]; exact h
  · exact hj j (by omega)

theorem rule1 (q x : Ru) : Fn1 Try.prog 54 [ruleA q, .rp (ruleC x)] (fun r => r = .bool (decide (q.1 = x.1))) := by
  refine fn1E (T := Try.tt) Try.func54 rfl tt_all follows_all ?_ ?_ fun C hC hE => ?_
  · kernel_rfl
  · exact Nat.le_of_ble_eq_true (by kernel_rfl)
  conv => whnf
  repeat' (first | (refine brd_t (by first | assumption | omega) ?_; conv => whnf) | (refine brd_f (by first | assumption | omega) ?_; conv => whnf) | (refine ask (by first | assumption | omega) ?_; conv => whnf) | (refine fit64 (by omega) ?_; conv => whnf) | (refine fit (by simp only [kmin, kmax]; omega) ?_; conv => whnf) | (refine br_t (by assumption) ?_; conv => whnf) | (refine br_f (by assumption) ?_; conv => whnf) | (refine get_of (by assumption) ?_; conv => whnf) | (refine get_map (by assumption) ?_; conv => whnf) | (refine brd (fun h => ?_) (fun h => ?_) <;> conv => whnf) | (refine br (fun h => ?_) (fun h => ?_) <;> conv => whnf) | (refine ret_now hE ?_; conv => whnf) | (intro hlen; conv => whnf))
  all_goals exact ⟨rfl, by congr 1; first | exact (decide_eq_true (by assumption)).symm | exact (decide_eq_false (by assumption)).symm⟩
theorem indexFunc_56 (l : List Ru) (h : FuncId) (caps : List V) (p : Ru → Bool) (hb : hasBody Try.prog h = true) (hc : nrB caps = true) (hp : ∀ a ∈ l, Fn1 Try.prog h (ruleA a :: caps) (fun r => r = .bool (p a))) :
    Fn1 Try.prog 56 [.lst (l.map ruleA), .fn h caps] (fun r => r = .int .i64 (idxOf p l)) := by
  refine fn1E (T := Try.tt) Try.func56 rfl tt_all follows_all ?_ ?_ fun C hC hE => ?_
  · kernel_rfl
  · exact Nat.le_of_ble_eq_true (by kernel_rfl)
  conv => whnf
  intro hl
  conv => whnf
  refine loopE (fun k : Nat => ⟨19, [(0, .lst (l.map ruleA)), (1, .fn h caps), (7, .int .i64 (l.map ruleA).length), (8, .int .i64 k)], []⟩) (fun k => k ≤ l.length ∧ ∀ j < k, ∀ x, l[j]? = some x → p x = false) (fun k => l.length - k) 0 hE ?_ ?_ ?_ ?_
  · kernel_rfl
  · exact at_keep [0, 1, 7, 8] rfl
  · exact ⟨Nat.zero_le _, fun j hj => by omega⟩
  intro k hkj
  obtain ⟨hk, hj⟩ := hkj
  have hlm : (l.map ruleA).length = l.length := by simp
  by_cases hlt : k < l.length
  · obtain ⟨x, hx⟩ : ∃ x, l[k]? = some x := ⟨_, List.getElem?_eq_getElem hlt⟩
    have hpx := hp x (List.mem_of_getElem? hx)
    conv => whnf
    repeat' (first | (refine brd_t (by first | assumption | omega) ?_; conv => whnf) | (refine brd_f (by first | assumption | omega) ?_; conv => whnf) | (refine ask (by first | assumption | omega) ?_; conv => whnf) | (refine fit64 (by omega) ?_; conv => whnf) | (refine fit (by simp only [kmin, kmax]; omega) ?_; conv => whnf) | (refine br_t (by assumption) ?_; conv => whnf) | (refine br_f (by assumption) ?_; conv => whnf) | (refine get_of (by assumption) ?_; conv => whnf) | (refine get_map (by assumption) ?_; conv => whnf) | (refine call_eq hpx hC hb ?_ ?_ ?_; kernel_rfl; exact nrB_tail (by kernel_rfl) hc; conv => whnf) | (refine brd (fun h => ?_) (fun h => ?_) <;> conv => whnf) | (refine br (fun h => ?_) (fun h => ?_) <;> conv => whnf) | (refine ret_now hE ?_; conv => whnf) | (intro hlen; conv => whnf))
    · exact ⟨rfl, by rw [idxOf_hit hx (by assumption) hj]⟩
    · refine next_keep [0, 1, 7, 8] (k + 1) ⟨hlt, ?_⟩ (by omega) rfl
      intro j hjk y hy
      by_cases e : j = k
      · subst e; rw [hx] at hy; cases hy; assumption
      · exact hj j (by omega) y hy
  · conv => whnf
    repeat' (first | (refine brd_t (by first | assumption | omega) ?_; conv => whnf) | (refine brd_f (by first | assumption | omega) ?_; conv => whnf) | (refine ask (by first | assumption | omega) ?_; conv => whnf) | (refine fit64 (by omega) ?_; conv => whnf) | (refine fit (by simp only [kmin, kmax]; omega) ?_; conv => whnf) | (refine br_t (by assumption) ?_; conv => whnf) | (refine br_f (by assumption) ?_; conv => whnf) | (refine get_of (by assumption) ?_; conv => whnf) | (refine get_map (by assumption) ?_; conv => whnf) | (refine brd (fun h => ?_) (fun h => ?_) <;> conv => whnf) | (refine br (fun h => ?_) (fun h => ?_) <;> conv => whnf) | (refine ret_now hE ?_; conv => whnf) | (intro hlen; conv => whnf))
    exact ⟨rfl, by rw [idxOf_miss (fun x hx => by obtain ⟨j, hj'⟩ := List.mem_iff_getElem?.1 hx; exact hj j (by have := (List.getElem?_eq_some_iff.1 hj').1; omega) x hj')]⟩

theorem containsFunc_53 (l : List Ru) (h : FuncId) (caps : List V) (p : Ru → Bool) (hb : hasBody Try.prog h = true) (hc : nrB caps = true) (hp : ∀ a ∈ l, Fn1 Try.prog h (ruleA a :: caps) (fun r => r = .bool (p a))) :
    Fn1 Try.prog 53 [.lst (l.map ruleA), .fn h caps] (fun r => r = .bool (l.any p)) := by
  have hi := indexFunc_56 l h caps p hb hc hp
  have ha := idxOf_any p l
  refine fn1E (T := Try.tt) Try.func53 rfl tt_all follows_all ?_ ?_ fun C hC hE => ?_
  · kernel_rfl
  · exact Nat.le_of_ble_eq_true (by kernel_rfl)
  conv => whnf
  repeat' (first | (refine brd_t (by first | assumption | omega) ?_; conv => whnf) | (refine brd_f (by first | assumption | omega) ?_; conv => whnf) | (refine ask (by first | assumption | omega) ?_; conv => whnf) | (refine fit64 (by omega) ?_; conv => whnf) | (refine fit (by simp only [kmin, kmax]; omega) ?_; conv => whnf) | (refine br_t (by assumption) ?_; conv => whnf) | (refine br_f (by assumption) ?_; conv => whnf) | (refine get_of (by assumption) ?_; conv => whnf) | (refine get_map (by assumption) ?_; conv => whnf) | (refine call_eq hi hC hasBody_56 ?_ ?_ ?_; kernel_rfl; exact nrB_fn rfl hc; conv => whnf) | (refine brd (fun h => ?_) (fun h => ?_) <;> conv => whnf) | (refine br (fun h => ?_) (fun h => ?_) <;> conv => whnf) | (refine ret_now hE ?_; conv => whnf) | (intro hlen; conv => whnf))
  all_goals exact ⟨rfl, by rw [← ha]; congr 1; first | exact (decide_eq_true (by assumption)).symm | exact (decide_eq_false (by assumption)).symm⟩

theorem slice_len (l : List Ru) : ∀ y ∈ l.map ruleA, y.cells.length = 3 := fun y hy => by obtain ⟨q, _, rfl⟩ := List.mem_map.1 hy; rfl
theorem rules_check (l : List Ru) : Fn1 Try.prog 31 [rulesV l] (fun r => r = .int .i64 (rulesCode l)) := by
  have hlm : (l.map ruleA).length = l.length := by simp
  refine fn1E (T := Try.tt) Try.func31 rfl tt_all follows_all ?_ ?_ fun C hC hE => ?_
  · kernel_rfl
  · exact Nat.le_of_ble_eq_true (by kernel_rfl)
  conv => whnf
  repeat' (first | (refine brd_t (by first | assumption | omega) ?_; conv => whnf) | (refine brd_f (by first | assumption | omega) ?_; conv => whnf) | (refine ask (by first | assumption | omega) ?_; conv => whnf) | (refine fit64 (by omega) ?_; conv => whnf) | (refine fit (by simp only [kmin, kmax]; omega) ?_; conv => whnf) | (refine br_t (by assumption) ?_; conv => whnf) | (refine br_f (by assumption) ?_; conv => whnf) | (refine get_of (by assumption) ?_; conv => whnf) | (refine get_map (by assumption) ?_; conv => whnf) | (refine brd (fun h => ?_) (fun h => ?_) <;> conv => whnf) | (refine br (fun h => ?_) (fun h => ?_) <;> conv => whnf) | (refine ret_now hE ?_; conv => whnf) | (intro hlen; conv => whnf))
  · exact ⟨rfl, by rw [code_big (by omega)]⟩
  refine loopE (fun k : Nat => ⟨55, [(0, rulesV l), (8, rulesV l), (9, .int .i64 (l.map ruleA).length), (10, .int .i64 k)], []⟩) (fun k => k ≤ l.length ∧ ∀ j < k, faultAt l j = 0) (fun k => l.length - k) 0 hE ?_ ?_ ⟨Nat.zero_le _, fun j hj => by omega⟩ ?_
  · kernel_rfl
  · exact at_keep [0, 8, 9, 10] rfl
  intro k hk
  obtain ⟨hk, hj⟩ := hk
  have h12 : ¬ 12 < l.length := by omega
  by_cases hlt : k < l.length
  · obtain ⟨x, hx⟩ : ∃ x, l[k]? = some x := ⟨_, List.getElem?_eq_getElem hlt⟩
    have hcf := containsFunc_53 (l.take k) 54 [.rp (ruleC x)] (fun q => decide (q.1 = x.1)) hasBody_54 rfl (fun q _ => rule1 q x)
    obtain ⟨b, hb⟩ : ∃ b, (l.take k).any (fun q => decide (q.1 = x.1)) = b := ⟨_, rfl⟩
    rw [hb] at hcf
    conv => whnf
    repeat' (first | (refine brd_t (by first | assumption | omega) ?_; conv => whnf) | (refine brd_f (by first | assumption | omega) ?_; conv => whnf) | (refine ask (by first | assumption | omega) ?_; conv => whnf) | (refine fit64 (by omega) ?_; conv => whnf) | (refine fit (by simp only [kmin, kmax]; omega) ?_; conv => whnf) | (refine br_t (by assumption) ?_; conv => whnf) | (refine br_f (by assumption) ?_; conv => whnf) | (refine get_of (by assumption) ?_; conv => whnf) | (refine get_map (by assumption) ?_; conv => whnf) | (refine call_eq (emit_name _) hC hasBody_52 ?_ ?_ ?_; kernel_rfl; kernel_rfl; conv => whnf) | (refine callq_eq (emit_name _) hC hasBody_52 ?_ ?_ ?_; kernel_rfl; kernel_rfl; conv => whnf) | (refine ⟨slice_len l, ?_⟩; conv => whnf) | (refine call_as hcf hC hasBody_53 ?_ ?_ ?_ ?_; (rw [List.map_take]; rfl); kernel_rfl; kernel_rfl; conv => whnf) | (refine call_up (up_freeze 0 (z := 3) (els := [ruleA x]) rfl ?_ (up_here ?_)); exact ⟨⟨trivial, trivial, trivial, trivial⟩, trivial⟩; conv => whnf) | (refine brd (fun h => ?_) (fun h => ?_) <;> conv => whnf) | (refine br (fun h => ?_) (fun h => ?_) <;> conv => whnf) | (refine ret_now hE ?_; conv => whnf) | (intro hlen; conv => whnf))
    all_goals first
      | exact ⟨rfl, congrArg (V.int .i64) (Eq.symm (code_hit h12 hx hj (by unfold rfault; rw [hb]; (repeat' split); all_goals first | rfl | omega | (exfalso; simp_all; done) | (exfalso; simp_all; omega)) (by decide)))⟩
      | exact next_wipe [0, 8, 9, 10] (k + 1) (by kernel_rfl) ⟨hlt, fault_next hx hj (by unfold rfault; rw [hb]; (repeat' split); all_goals first | rfl | omega | (exfalso; simp_all; done) | (exfalso; simp_all; omega))⟩ (by omega) rfl
      | trace_state
  · conv => whnf
    repeat' (first | (refine brd_t (by first | assumption | omega) ?_; conv => whnf) | (refine brd_f (by first | assumption | omega) ?_; conv => whnf) | (refine ask (by first | assumption | omega) ?_; conv => whnf) | (refine fit64 (by omega) ?_; conv => whnf) | (refine fit (by simp only [kmin, kmax]; omega) ?_; conv => whnf) | (refine br_t (by assumption) ?_; conv => whnf) | (refine br_f (by assumption) ?_; conv => whnf) | (refine get_of (by assumption) ?_; conv => whnf) | (refine get_map (by assumption) ?_; conv => whnf) | (refine brd (fun h => ?_) (fun h => ?_) <;> conv => whnf) | (refine br (fun h => ?_) (fun h => ?_) <;> conv => whnf) | (refine ret_now hE ?_; conv => whnf) | (intro hlen; conv => whnf))
    exact ⟨rfl, by rw [code_none h12 (fun j hjl => hj j (by omega))]⟩
end Go.Proofs.Yteekfmflecgjmaa
