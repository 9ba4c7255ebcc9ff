/- Expressions: as values; expr.fault and the document's exprFault, walked. No conditions. -/
import Derived.Test.YteappcclfjafeaaJoin
set_option linter.unusedSimpArgs false
set_option linter.unusedVariables false
set_option maxRecDepth 100000
namespace Go.Proofs.Yteappcclfjafeaa
open Go.RowKit

inductive Ex where
  | mk (k t : Int) (ps : List Ex)
def Ex.kind : Ex → Int | .mk k _ _ => k
def Ex.type : Ex → Int | .mk _ t _ => t
def Ex.parts : Ex → List Ex | .mk _ _ ps => ps
mutual
def exR : Ex → V
  | .mk k t ps => .agg [.int .i64 k, .int .i64 t, .lst (exRL ps)]
def exRL : List Ex → List V
  | [] => []
  | x :: xs => exR x :: exRL xs
end
def exA (x : Ex) : V := .agg [.int .i64 x.kind, .int .i64 x.type, .lst (exRL x.parts)]
theorem exR_eq (x : Ex) : exR x = exA x := by cases x; rw [exR]; rfl
theorem exRL_map : ∀ ps, exRL ps = ps.map exA
  | [] => by simp [exRL]
  | x :: xs => by simp [exRL, exRL_map xs, exR_eq]
theorem exA_mk (k t : Int) (ps : List Ex) : exA (.mk k t ps) = .agg [.int .i64 k, .int .i64 t, .lst (ps.map exA)] := by rw [← exRL_map]; rfl
mutual
def szE : Ex → Nat
  | .mk _ _ ps => szEL ps + 4
def szEL : List Ex → Nat
  | [] => 0
  | x :: xs => szE x + szEL xs
end
theorem szEL_sum : ∀ ps, szEL ps = (ps.map szE).sum
  | [] => by simp [szEL]
  | x :: xs => by simp [szEL, szEL_sum xs]
theorem szE_mk (k t : Int) (ps : List Ex) : szE (.mk k t ps) = szEL ps + 4 := by rw [szE]
theorem szEL_mem {l : List Ex} {x : Ex} (h : x ∈ l) : szE x ≤ szEL l := by rw [szEL_sum]; exact mem_sum szE l x h
theorem szE_pos (x : Ex) : 4 ≤ szE x := by cases x; rw [szE_mk]; omega
theorem szEL_len (l : List Ex) : l.length ≤ szEL l := by rw [szEL_sum]; exact len_le_sz szE (fun x => by have := szE_pos x; omega) l
theorem ex_at {l : List Ex} {k : Nat} (h : k < l.length) : ∃ a t ps, l[k]? = some (.mk a t ps) ∧ (l.map exA)[k]? = some (.agg [.int .i64 a, .int .i64 t, .lst (ps.map exA)]) := by
  have hx : l[k]? = some l[k] := List.getElem?_eq_getElem h
  cases hn : l[k] with
  | mk a t ps => rw [hn] at hx; exact ⟨a, t, ps, hx, by rw [List.getElem?_map, hx, Option.map_some, exA_mk]⟩
theorem exA_cells (x : Ex) : (exA x).cells.length = 3 := by cases x; rw [exA_mk]; rfl
theorem exA_nr (x : Ex) : (exA x).nr := by cases x; rw [exA_mk]; exact ⟨trivial, trivial, trivial, trivial⟩
theorem nr_exs (l : List Ex) : nrL (l.map exA) := by
  rw [nrL_mem]
  intro x hx
  obtain ⟨q, _, rfl⟩ := List.mem_map.1 hx
  exact exA_nr q

/-! ### What is refused -/
def formBad (k t : Int) (n : Nat) : Bool :=
  decide (k = 1 ∧ 0 < n) || decide (k ≠ 1 ∧ t ≠ 0) || decide ((k = 2 ∨ k = 3) ∧ n = 1) || decide (k = 3 ∧ n = 0) || decide (4 ≤ k ∧ n ≠ 1)
mutual
def exF : Ex → Int
  | .mk k t ps => if k < 1 ∨ 6 < k then 3 else if formBad k t ps.length = true then 4 else if (k = 2 ∨ k = 3) ∧ (ps.any fun p => decide (p.kind = k)) = true then 4 else if t < 0 ∨ 8 ≤ t then 2 else exFL ps
def exFL : List Ex → Int
  | [] => 0
  | x :: xs => if exF x ≠ 0 then exF x else exFL xs
end
section
variable {k t : Int} {ps : List Ex}
theorem ef_kind (h : k < 1 ∨ 6 < k) : exF (.mk k t ps) = 3 := by rw [exF, if_pos h]
theorem ef_form (h : ¬ (k < 1 ∨ 6 < k)) (hf : formBad k t ps.length = true) : exF (.mk k t ps) = 4 := by rw [exF, if_neg h, if_pos hf]
theorem ef_same (h : ¬ (k < 1 ∨ 6 < k)) (hf : formBad k t ps.length = false) (hs : (k = 2 ∨ k = 3) ∧ (ps.any fun p => decide (p.kind = k)) = true) : exF (.mk k t ps) = 4 := by rw [exF, if_neg h, if_neg (by simp [hf]), if_pos hs]
theorem ef_range (h : ¬ (k < 1 ∨ 6 < k)) (hf : formBad k t ps.length = false) (hs : ¬ ((k = 2 ∨ k = 3) ∧ (ps.any fun p => decide (p.kind = k)) = true)) (ht : t < 0 ∨ 8 ≤ t) : exF (.mk k t ps) = 2 := by
  rw [exF, if_neg h, if_neg (by simp [hf]), if_neg hs, if_pos ht]
theorem ef_parts (h : ¬ (k < 1 ∨ 6 < k)) (hf : formBad k t ps.length = false) (hs : ¬ ((k = 2 ∨ k = 3) ∧ (ps.any fun p => decide (p.kind = k)) = true)) (ht : ¬ (t < 0 ∨ 8 ≤ t)) : exF (.mk k t ps) = exFL ps := by
  rw [exF, if_neg h, if_neg (by simp [hf]), if_neg hs, if_neg ht]
end
theorem exFL_step {l : List Ex} {k : Nat} {x : Ex} (hx : l[k]? = some x) : exFL (l.drop k) = if exF x ≠ 0 then exF x else exFL (l.drop (k + 1)) := by
  obtain ⟨hlt, rfl⟩ := List.getElem?_eq_some_iff.1 hx
  rw [List.drop_eq_getElem_cons hlt, exFL]
theorem fault1 (p : Ex) (k t : Int) (ps : List V) : Fn1 Try.prog 60 [exA p, .rp [.int .i64 k, .int .i64 t, .lst ps]] (fun r => r = .bool (decide (p.kind = k))) := by
  cases p with
  | mk a b qs =>
    rw [exA_mk]
    refine fn1E (T := Try.tt) Try.func60 rfl tt_all follows_all ?_ ?_ fun C hC hE => ?_
    · kernel_rfl
    · exact Nat.le_of_ble_eq_true (by kernel_rfl)
    conv => whnf
    repeat' (first | (refine brd_t (by first | assumption | omega) ?_; conv => whnf) | (refine brd_f (by first | assumption | omega) ?_; conv => whnf) | (refine ask (by first | assumption | omega) ?_; conv => whnf) | (refine fit64 (by omega) ?_; conv => whnf) | (refine fit (by simp only [kmin, kmax]; omega) ?_; conv => whnf) | (refine br_t (by assumption) ?_; conv => whnf) | (refine br_f (by assumption) ?_; conv => whnf) | (refine get_of (by assumption) ?_; conv => whnf) | (refine get_map (by assumption) ?_; conv => whnf) | (refine draw_lex hE ?_ ?_; decide +kernel; conv => whnf) | (refine brd (fun h => ?_) (fun h => ?_) <;> conv => whnf) | (refine br (fun h => ?_) (fun h => ?_) <;> conv => whnf) | (refine ret_now hE ?_; conv => whnf) | (intro hlen; conv => whnf) | (refine seg_here ?_; conv => whnf) | (refine both ?_ ?_ <;> conv => whnf))
    all_goals exact ⟨rfl, by congr 1; first | exact (decide_eq_true (by assumption)).symm | exact (decide_eq_false (by assumption)).symm⟩
theorem indexFunc_69 (l : List Ex) (h : FuncId) (caps : List V) (p : Ex → Bool) (hb : hasBody Try.prog h = true) (hc : nrB caps = true) (hp : ∀ a ∈ l, Fn1 Try.prog h (exA a :: caps) (fun r => r = .bool (p a))) :
    Fn1 Try.prog 69 [.lst (l.map exA), .fn h caps] (fun r => r = .int .i64 (idxOf p l)) := by
  refine fn1E (T := Try.tt) Try.func69 rfl tt_all follows_all ?_ ?_ fun C hC hE => ?_
  · kernel_rfl
  · exact Nat.le_of_ble_eq_true (by kernel_rfl)
  conv => whnf
  intro hl
  conv => whnf
  refine loopE (fun k : Nat => ⟨19, [(0, .lst (l.map exA)), (1, .fn h caps), (7, .int .i64 (l.map exA).length), (8, .int .i64 k)], []⟩) (fun k => k ≤ l.length ∧ ∀ j < k, ∀ x, l[j]? = some x → p x = false) (fun k => l.length - k) 0 hE ?_ ?_ ?_ ?_
  · kernel_rfl
  · exact at_keep [0, 1, 7, 8] rfl
  · exact ⟨Nat.zero_le _, fun j hj => by omega⟩
  intro k hkj
  obtain ⟨hk, hj⟩ := hkj
  have hlm : (l.map exA).length = l.length := by simp
  by_cases hlt : k < l.length
  · obtain ⟨x, hx⟩ : ∃ x, l[k]? = some x := ⟨_, List.getElem?_eq_getElem hlt⟩
    have hpx := hp x (List.mem_of_getElem? hx)
    conv => whnf
    repeat' (first | (refine brd_t (by first | assumption | omega) ?_; conv => whnf) | (refine brd_f (by first | assumption | omega) ?_; conv => whnf) | (refine ask (by first | assumption | omega) ?_; conv => whnf) | (refine fit64 (by omega) ?_; conv => whnf) | (refine fit (by simp only [kmin, kmax]; omega) ?_; conv => whnf) | (refine br_t (by assumption) ?_; conv => whnf) | (refine br_f (by assumption) ?_; conv => whnf) | (refine get_of (by assumption) ?_; conv => whnf) | (refine get_map (by assumption) ?_; conv => whnf) | (refine call_eq hpx hC hb ?_ ?_ ?_; kernel_rfl; exact nrB_tail (by kernel_rfl) hc; conv => whnf) | (refine draw_lex hE ?_ ?_; decide +kernel; conv => whnf) | (refine brd (fun h => ?_) (fun h => ?_) <;> conv => whnf) | (refine br (fun h => ?_) (fun h => ?_) <;> conv => whnf) | (refine ret_now hE ?_; conv => whnf) | (intro hlen; conv => whnf) | (refine seg_here ?_; conv => whnf) | (refine both ?_ ?_ <;> conv => whnf))
    · exact ⟨rfl, by rw [idxOf_hit hx (by assumption) hj]⟩
    · refine next_keep [0, 1, 7, 8] (k + 1) ⟨hlt, ?_⟩ (by omega) rfl
      intro j hjk y hy
      by_cases e : j = k
      · subst e; rw [hx] at hy; cases hy; assumption
      · exact hj j (by omega) y hy
  · conv => whnf
    repeat' (first | (refine brd_t (by first | assumption | omega) ?_; conv => whnf) | (refine brd_f (by first | assumption | omega) ?_; conv => whnf) | (refine ask (by first | assumption | omega) ?_; conv => whnf) | (refine fit64 (by omega) ?_; conv => whnf) | (refine fit (by simp only [kmin, kmax]; omega) ?_; conv => whnf) | (refine br_t (by assumption) ?_; conv => whnf) | (refine br_f (by assumption) ?_; conv => whnf) | (refine get_of (by assumption) ?_; conv => whnf) | (refine get_map (by assumption) ?_; conv => whnf) | (refine draw_lex hE ?_ ?_; decide +kernel; conv => whnf) | (refine brd (fun h => ?_) (fun h => ?_) <;> conv => whnf) | (refine br (fun h => ?_) (fun h => ?_) <;> conv => whnf) | (refine ret_now hE ?_; conv => whnf) | (intro hlen; conv => whnf) | (refine seg_here ?_; conv => whnf) | (refine both ?_ ?_ <;> conv => whnf))
    exact ⟨rfl, by rw [idxOf_miss (fun x hx => by obtain ⟨j, hj'⟩ := List.mem_iff_getElem?.1 hx; exact hj j (by have := (List.getElem?_eq_some_iff.1 hj').1; omega) x hj')]⟩

theorem containsFunc_59 (l : List Ex) (h : FuncId) (caps : List V) (p : Ex → Bool) (hb : hasBody Try.prog h = true) (hc : nrB caps = true) (hp : ∀ a ∈ l, Fn1 Try.prog h (exA a :: caps) (fun r => r = .bool (p a))) :
    Fn1 Try.prog 59 [.lst (l.map exA), .fn h caps] (fun r => r = .bool (l.any p)) := by
  have hi := indexFunc_69 l h caps p hb hc hp
  have ha := idxOf_any p l
  refine fn1E (T := Try.tt) Try.func59 rfl tt_all follows_all ?_ ?_ fun C hC hE => ?_
  · kernel_rfl
  · exact Nat.le_of_ble_eq_true (by kernel_rfl)
  conv => whnf
  repeat' (first | (refine brd_t (by first | assumption | omega) ?_; conv => whnf) | (refine brd_f (by first | assumption | omega) ?_; conv => whnf) | (refine ask (by first | assumption | omega) ?_; conv => whnf) | (refine fit64 (by omega) ?_; conv => whnf) | (refine fit (by simp only [kmin, kmax]; omega) ?_; conv => whnf) | (refine br_t (by assumption) ?_; conv => whnf) | (refine br_f (by assumption) ?_; conv => whnf) | (refine get_of (by assumption) ?_; conv => whnf) | (refine get_map (by assumption) ?_; conv => whnf) | (refine call_eq hi hC hasBody_69 ?_ ?_ ?_; kernel_rfl; exact nrB_fn rfl hc; conv => whnf) | (refine draw_lex hE ?_ ?_; decide +kernel; conv => whnf) | (refine brd (fun h => ?_) (fun h => ?_) <;> conv => whnf) | (refine br (fun h => ?_) (fun h => ?_) <;> conv => whnf) | (refine ret_now hE ?_; conv => whnf) | (intro hlen; conv => whnf) | (refine seg_here ?_; conv => whnf) | (refine both ?_ ?_ <;> conv => whnf))
  all_goals exact ⟨rfl, by rw [← ha]; congr 1; first | exact (decide_eq_true (by assumption)).symm | exact (decide_eq_false (by assumption)).symm⟩

set_option maxHeartbeats 8000000 in
theorem expr_fault : ∀ (N : Nat) (k t : Int) (ps : List Ex), szEL ps ≤ N → Fn1 Try.prog 44 [.agg [.int .i64 k, .int .i64 t, .lst (ps.map exA)]] (fun r => r = .int .i64 (exF (.mk k t ps))) := by
  intro N
  induction N using Nat.strongRecOn with
  | _ N ih =>
    intro k t ps hps
    have hlm : (ps.map exA).length = ps.length := by simp
    have hcf := containsFunc_59 ps 60 [.rp [.int .i64 k, .int .i64 t, .lst (ps.map exA)]] (fun p => decide (p.kind = k)) hasBody_60 rfl (fun q _ => fault1 q k t _)
    obtain ⟨b, hb⟩ : ∃ b, (ps.any fun p => decide (p.kind = k)) = b := ⟨_, rfl⟩
    rw [hb] at hcf
    refine fn1E (T := Try.tt) Try.func44 rfl tt_all follows_all ?_ ?_ fun C hC hE => ?_
    · kernel_rfl
    · exact Nat.le_of_ble_eq_true (by kernel_rfl)
    conv => whnf
    repeat' (first | (refine brd_t (by first | assumption | omega) ?_; conv => whnf) | (refine brd_f (by first | assumption | omega) ?_; conv => whnf) | (refine ask (by first | assumption | omega) ?_; conv => whnf) | (refine fit64 (by omega) ?_; conv => whnf) | (refine fit (by simp only [kmin, kmax]; omega) ?_; conv => whnf) | (refine br_t (by assumption) ?_; conv => whnf) | (refine br_f (by assumption) ?_; conv => whnf) | (refine get_of (by assumption) ?_; conv => whnf) | (refine get_map (by assumption) ?_; conv => whnf) | (refine call_up (up_freeze 0 (z := 3) (els := [.agg [.int .i64 k, .int .i64 t, .lst (ps.map exA)]]) rfl ?_ (up_here ?_)); exact ⟨⟨trivial, trivial, trivial, trivial⟩, trivial⟩; conv => whnf) | (refine call_eq (hcf) hC hasBody_59 ?_ ?_ ?_; kernel_rfl; kernel_rfl; conv => whnf) | (refine callq_eq (hcf) hC hasBody_59 ?_ ?_ ?_; kernel_rfl; kernel_rfl; conv => whnf) | (refine draw_lex hE ?_ ?_; decide +kernel; conv => whnf) | (refine brd (fun h => ?_) (fun h => ?_) <;> conv => whnf) | (refine br (fun h => ?_) (fun h => ?_) <;> conv => whnf) | (refine ret_now hE ?_; conv => whnf) | (intro hlen; conv => whnf) | (refine seg_here ?_; conv => whnf) | (refine both ?_ ?_ <;> conv => whnf))
    all_goals try (first
      | exact ⟨rfl, by rw [ef_kind (by omega)]⟩
      | exact ⟨rfl, by rw [ef_form (by omega) (by unfold formBad; simp only [Bool.or_eq_true, decide_eq_true_eq]; omega)]⟩
      | exact ⟨rfl, by rw [ef_same (by omega) (by unfold formBad; simp only [Bool.or_eq_false_iff, decide_eq_false_iff_not]; omega) ⟨by omega, by rw [hb]; assumption⟩]⟩
      | exact ⟨rfl, by rw [ef_range (by omega) (by unfold formBad; simp only [Bool.or_eq_false_iff, decide_eq_false_iff_not]; omega) (fun h => by first | omega | (rw [hb] at h; simp_all; done)) (by omega)]⟩)
    all_goals
      have h1 : ¬ (k < 1 ∨ 6 < k) := by omega
      have h2 : formBad k t ps.length = false := by unfold formBad; simp only [Bool.or_eq_false_iff, decide_eq_false_iff_not]; omega
      have h3 : ¬ ((k = 2 ∨ k = 3) ∧ (ps.any fun p => decide (p.kind = k)) = true) := fun h => by first | omega | (rw [hb] at h; simp_all; done)
      have h4 : ¬ (t < 0 ∨ 8 ≤ t) := by omega
      have he := ef_parts h1 h2 h3 h4
      refine loopE (fun j : Nat => ⟨93, [(1, .rp [.int .i64 k, .int .i64 t, .lst (ps.map exA)]), (81, .lst (ps.map exA)), (82, .int .i64 (ps.map exA).length), (83, .int .i64 j)], []⟩) (fun j => j ≤ ps.length ∧ exFL ps = exFL (ps.drop j)) (fun j => ps.length - j) 0 hE ?_ ?_ ⟨Nat.zero_le _, rfl⟩ ?_
      · kernel_rfl
      · first
          | exact at_drop [1, 81, 82, 83] [] rfl
          | exact up_freeze 0 (z := 3) (els := [.agg [.int .i64 k, .int .i64 t, .lst (ps.map exA)]]) rfl ⟨⟨trivial, trivial, trivial, trivial⟩, trivial⟩ (at_drop [1, 81, 82, 83] [] rfl)
      intro j hj
      obtain ⟨hj, hI⟩ := hj
      by_cases hlt : j < ps.length
      · obtain ⟨a, u, qs, hx, hx'⟩ := ex_at hlt
        have hp2 := szEL_mem (List.mem_of_getElem? hx)
        rw [szE_mk] at hp2
        have ih' := ih (szEL qs) (by omega) a u qs (Nat.le_refl _)
        have hst := exFL_step hx
        conv => whnf
        repeat' (first | (refine brd_t (by first | assumption | omega) ?_; conv => whnf) | (refine brd_f (by first | assumption | omega) ?_; conv => whnf) | (refine ask (by first | assumption | omega) ?_; conv => whnf) | (refine fit64 (by omega) ?_; conv => whnf) | (refine fit (by simp only [kmin, kmax]; omega) ?_; conv => whnf) | (refine br_t (by assumption) ?_; conv => whnf) | (refine br_f (by assumption) ?_; conv => whnf) | (refine get_of (by assumption) ?_; conv => whnf) | (refine get_map (by assumption) ?_; conv => whnf) | (refine call_eq (ih') hC hasBody_44 ?_ ?_ ?_; kernel_rfl; kernel_rfl; conv => whnf) | (refine callq_eq (ih') hC hasBody_44 ?_ ?_ ?_; kernel_rfl; kernel_rfl; conv => whnf) | (refine draw_lex hE ?_ ?_; decide +kernel; conv => whnf) | (refine brd (fun h => ?_) (fun h => ?_) <;> conv => whnf) | (refine br (fun h => ?_) (fun h => ?_) <;> conv => whnf) | (refine ret_now hE ?_; conv => whnf) | (intro hlen; conv => whnf) | (refine seg_here ?_; conv => whnf) | (refine both ?_ ?_ <;> conv => whnf))
        all_goals first
          | exact ⟨rfl, by rw [he, hI, hst, if_pos (by assumption)]⟩
          | exact next_drop [1, 81, 82, 83] [0] (j + 1) ⟨hlt, by rw [hI, hst, if_neg (by simp; omega)]⟩ (by omega) rfl
      · rw [List.drop_eq_nil_of_le (by omega), exFL] at hI
        conv => whnf
        repeat' (first | (refine brd_t (by first | assumption | omega) ?_; conv => whnf) | (refine brd_f (by first | assumption | omega) ?_; conv => whnf) | (refine ask (by first | assumption | omega) ?_; conv => whnf) | (refine fit64 (by omega) ?_; conv => whnf) | (refine fit (by simp only [kmin, kmax]; omega) ?_; conv => whnf) | (refine br_t (by assumption) ?_; conv => whnf) | (refine br_f (by assumption) ?_; conv => whnf) | (refine get_of (by assumption) ?_; conv => whnf) | (refine get_map (by assumption) ?_; conv => whnf) | (refine draw_lex hE ?_ ?_; decide +kernel; conv => whnf) | (refine brd (fun h => ?_) (fun h => ?_) <;> conv => whnf) | (refine br (fun h => ?_) (fun h => ?_) <;> conv => whnf) | (refine ret_now hE ?_; conv => whnf) | (intro hlen; conv => whnf) | (refine seg_here ?_; conv => whnf) | (refine both ?_ ?_ <;> conv => whnf))
        exact ⟨rfl, by rw [he, hI]⟩

/-! ### The document's answer -/
set_option maxHeartbeats 8000000 in
theorem doc_fault : ∀ (N : Nat) (k t : Int) (ps : List Ex), szEL ps ≤ N → Fn1 Try.prog 48 [.agg [.int .i64 k, .int .i64 t, .lst (ps.map exA)]] (fun r => r = .int .i64 (exF (.mk k t ps))) := by
  intro N
  induction N using Nat.strongRecOn with
  | _ N ih =>
    intro k t ps hps
    have hlm : (ps.map exA).length = ps.length := by simp
    refine fn1E (T := Try.tt) Try.func48 rfl tt_all follows_all ?_ ?_ fun C hC hE => ?_
    · kernel_rfl
    · exact Nat.le_of_ble_eq_true (by kernel_rfl)
    conv => whnf
    repeat' (first | (refine brd_t (by first | assumption | omega) ?_; conv => whnf) | (refine brd_f (by first | assumption | omega) ?_; conv => whnf) | (refine ask (by first | assumption | omega) ?_; conv => whnf) | (refine fit64 (by omega) ?_; conv => whnf) | (refine fit (by simp only [kmin, kmax]; omega) ?_; conv => whnf) | (refine br_t (by assumption) ?_; conv => whnf) | (refine br_f (by assumption) ?_; conv => whnf) | (refine get_of (by assumption) ?_; conv => whnf) | (refine get_map (by assumption) ?_; conv => whnf) | (refine draw_lex hE ?_ ?_; decide +kernel; conv => whnf) | (refine brd (fun h => ?_) (fun h => ?_) <;> conv => whnf) | (refine br (fun h => ?_) (fun h => ?_) <;> conv => whnf) | (refine ret_now hE ?_; conv => whnf) | (intro hlen; conv => whnf) | (refine seg_here ?_; conv => whnf) | (refine both ?_ ?_ <;> conv => whnf))
    all_goals try (first
      | exact ⟨rfl, by rw [ef_kind (by omega)]⟩
      | exact ⟨rfl, by rw [ef_form (by omega) (by unfold formBad; simp only [Bool.or_eq_true, decide_eq_true_eq]; omega)]⟩)
    all_goals
      have h1 : ¬ (k < 1 ∨ 6 < k) := by omega
      have h2 : formBad k t ps.length = false := by unfold formBad; simp only [Bool.or_eq_false_iff, decide_eq_false_iff_not]; omega
      refine loopE (fun j : Nat => ⟨93, [(1, .ptr 0 0 0), (50, .lst (ps.map exA)), (51, .int .i64 (ps.map exA).length), (52, .int .i64 j)], [some (.row 3 [.agg [.int .i64 k, .int .i64 t, .lst (ps.map exA)]])]⟩)
        (fun j => j ≤ ps.length ∧ ∀ i < j, ∀ x, ps[i]? = some x → ¬ ((k = 2 ∨ k = 3) ∧ x.kind = k)) (fun j => ps.length - j) 0 hE ?_ ?_ ⟨Nat.zero_le _, fun i hi => by omega⟩ ?_
      · kernel_rfl
      · exact at_keep [1, 50, 51, 52] rfl
      intro j hj
      obtain ⟨hj, hI⟩ := hj
      by_cases hlt : j < ps.length
      · obtain ⟨a, u, qs, hx, hx'⟩ := ex_at hlt
        conv => whnf
        repeat' (first | (refine brd_t (by first | assumption | omega) ?_; conv => whnf) | (refine brd_f (by first | assumption | omega) ?_; conv => whnf) | (refine ask (by first | assumption | omega) ?_; conv => whnf) | (refine fit64 (by omega) ?_; conv => whnf) | (refine fit (by simp only [kmin, kmax]; omega) ?_; conv => whnf) | (refine br_t (by assumption) ?_; conv => whnf) | (refine br_f (by assumption) ?_; conv => whnf) | (refine get_of (by assumption) ?_; conv => whnf) | (refine get_map (by assumption) ?_; conv => whnf) | (refine draw_lex hE ?_ ?_; decide +kernel; conv => whnf) | (refine brd (fun h => ?_) (fun h => ?_) <;> conv => whnf) | (refine br (fun h => ?_) (fun h => ?_) <;> conv => whnf) | (refine ret_now hE ?_; conv => whnf) | (intro hlen; conv => whnf) | (refine seg_here ?_; conv => whnf) | (refine both ?_ ?_ <;> conv => whnf))
        all_goals first
          | exact ⟨rfl, by rw [ef_same h1 h2 ⟨by omega, List.any_eq_true.2 ⟨_, List.mem_of_getElem? hx, decide_eq_true (show a = k by omega)⟩⟩]⟩
          | (refine next_drop [1, 50, 51, 52] [1] (j + 1) ⟨hlt, fun i hi x hxi => ?_⟩ (by omega) rfl
             by_cases e : i = j
             · subst e; rw [hx] at hxi; cases hxi; show ¬ ((k = 2 ∨ k = 3) ∧ a = k); omega
             · exact hI i (by omega) x hxi)
      · have h3 : ¬ ((k = 2 ∨ k = 3) ∧ (ps.any fun p => decide (p.kind = k)) = true) := by
          rintro ⟨hk, ha⟩
          obtain ⟨x, hx, hxk⟩ := List.any_eq_true.1 ha
          obtain ⟨i, hi⟩ := List.mem_iff_getElem?.1 hx
          exact hI i (by have := (List.getElem?_eq_some_iff.1 hi).1; omega) x hi ⟨hk, of_decide_eq_true hxk⟩
        conv => whnf
        repeat' (first | (refine brd_t (by first | assumption | omega) ?_; conv => whnf) | (refine brd_f (by first | assumption | omega) ?_; conv => whnf) | (refine ask (by first | assumption | omega) ?_; conv => whnf) | (refine fit64 (by omega) ?_; conv => whnf) | (refine fit (by simp only [kmin, kmax]; omega) ?_; conv => whnf) | (refine br_t (by assumption) ?_; conv => whnf) | (refine br_f (by assumption) ?_; conv => whnf) | (refine get_of (by assumption) ?_; conv => whnf) | (refine get_map (by assumption) ?_; conv => whnf) | (refine draw_lex hE ?_ ?_; decide +kernel; conv => whnf) | (refine brd (fun h => ?_) (fun h => ?_) <;> conv => whnf) | (refine br (fun h => ?_) (fun h => ?_) <;> conv => whnf) | (refine ret_now hE ?_; conv => whnf) | (intro hlen; conv => whnf) | (refine seg_here ?_; conv => whnf) | (refine both ?_ ?_ <;> conv => whnf))
        all_goals try (first
          | exact ⟨rfl, by rw [ef_range h1 h2 h3 (by omega)]⟩)
        have h4 : ¬ (t < 0 ∨ 8 ≤ t) := by omega
        have he := ef_parts h1 h2 h3 h4
        refine loopE (fun j : Nat => ⟨93, [(1, .ptr 0 0 0), (81, .lst (ps.map exA)), (82, .int .i64 (ps.map exA).length), (83, .int .i64 j)], [some (.row 3 [.agg [.int .i64 k, .int .i64 t, .lst (ps.map exA)]])]⟩) (fun j => j ≤ ps.length ∧ exFL ps = exFL (ps.drop j)) (fun j => ps.length - j) 0 hE ?_ ?_ ⟨Nat.zero_le _, rfl⟩ ?_
        · kernel_rfl
        · exact at_keep [1, 81, 82, 83] rfl
        intro j hj
        obtain ⟨hj, hI⟩ := hj
        by_cases hlt : j < ps.length
        · obtain ⟨a, u, qs, hx, hx'⟩ := ex_at hlt
          have hp2 := szEL_mem (List.mem_of_getElem? hx)
          rw [szE_mk] at hp2
          have ih' := ih (szEL qs) (by omega) a u qs (Nat.le_refl _)
          have hst := exFL_step hx
          conv => whnf
          repeat' (first | (refine brd_t (by first | assumption | omega) ?_; conv => whnf) | (refine brd_f (by first | assumption | omega) ?_; conv => whnf) | (refine ask (by first | assumption | omega) ?_; conv => whnf) | (refine fit64 (by omega) ?_; conv => whnf) | (refine fit (by simp only [kmin, kmax]; omega) ?_; conv => whnf) | (refine br_t (by assumption) ?_; conv => whnf) | (refine br_f (by assumption) ?_; conv => whnf) | (refine get_of (by assumption) ?_; conv => whnf) | (refine get_map (by assumption) ?_; conv => whnf) | (refine call_eq (ih') hC hasBody_48 ?_ ?_ ?_; kernel_rfl; kernel_rfl; conv => whnf) | (refine callq_eq (ih') hC hasBody_48 ?_ ?_ ?_; kernel_rfl; kernel_rfl; conv => whnf) | (refine draw_lex hE ?_ ?_; decide +kernel; conv => whnf) | (refine brd (fun h => ?_) (fun h => ?_) <;> conv => whnf) | (refine br (fun h => ?_) (fun h => ?_) <;> conv => whnf) | (refine ret_now hE ?_; conv => whnf) | (intro hlen; conv => whnf) | (refine seg_here ?_; conv => whnf) | (refine both ?_ ?_ <;> conv => whnf))
          all_goals first
            | exact ⟨rfl, by rw [he, hI, hst, if_pos (by assumption)]⟩
            | exact next_drop [1, 81, 82, 83] [1] (j + 1) ⟨hlt, by rw [hI, hst, if_neg (by simp; omega)]⟩ (by omega) rfl
        · rw [List.drop_eq_nil_of_le (by omega), exFL] at hI
          conv => whnf
          repeat' (first | (refine brd_t (by first | assumption | omega) ?_; conv => whnf) | (refine brd_f (by first | assumption | omega) ?_; conv => whnf) | (refine ask (by first | assumption | omega) ?_; conv => whnf) | (refine fit64 (by omega) ?_; conv => whnf) | (refine fit (by simp only [kmin, kmax]; omega) ?_; conv => whnf) | (refine br_t (by assumption) ?_; conv => whnf) | (refine br_f (by assumption) ?_; conv => whnf) | (refine get_of (by assumption) ?_; conv => whnf) | (refine get_map (by assumption) ?_; conv => whnf) | (refine draw_lex hE ?_ ?_; decide +kernel; conv => whnf) | (refine brd (fun h => ?_) (fun h => ?_) <;> conv => whnf) | (refine br (fun h => ?_) (fun h => ?_) <;> conv => whnf) | (refine ret_now hE ?_; conv => whnf) | (intro hlen; conv => whnf) | (refine seg_here ?_; conv => whnf) | (refine both ?_ ?_ <;> conv => whnf))
          exact ⟨rfl, by rw [he, hI]⟩
end Go.Proofs.Yteappcclfjafeaa
