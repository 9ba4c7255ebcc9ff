/- show.Check and the document's ShowFault, walked. No conditions. -/
import Derived.Test.YtcfinfdkmpgaaaaAttrs
import Derived.Test.YtcfinfdkmpgaaaaTree
set_option linter.unusedSimpArgs false
set_option linter.unusedVariables false
set_option maxRecDepth 100000
namespace Go.Proofs.Ytcfinfdkmpgaaaa
open Go.RowKit

def voidL : List (List UInt8) := [[98, 114], [104, 114], [105, 109, 103], [105, 110, 112, 117, 116]]
mutual
def ndF : Nd → Nat → Bool → Int
  | .mk n a t ps, d, pe => if 10 ≤ d then 6 else if n = [] then (if 0 < a.length ∨ 0 < ps.length ∨ t = [] ∨ pe = true then 4 else 0) else if nameOk n = false then 5 else if attrsF a ≠ 0 then attrsF a else if t ≠ [] ∨ (n ∈ voidL ∧ 0 < ps.length) ∨ n ∈ rawL then 4 else ndL ps (d + 1) false
def ndL : List Nd → Nat → Bool → Int
  | [], _, _ => 0
  | x :: xs, d, pe => if ndF x d pe ≠ 0 then ndF x d pe else ndL xs d (decide (x.name = []))
end
section
variable {n : List UInt8} {a : List Atr} {t : List UInt8} {ps : List Nd} {d : Nat} {pe : Bool}
theorem nd_deep (h : 10 ≤ d) : ndF (.mk n a t ps) d pe = 6 := by rw [ndF, if_pos h]
theorem nd_text4 (h : d < 10) (hn : n = []) (hc : 0 < a.length ∨ 0 < ps.length ∨ t = [] ∨ pe = true) : ndF (.mk n a t ps) d pe = 4 := by rw [ndF, if_neg (by omega), if_pos hn, if_pos hc]
theorem nd_text0 (h : d < 10) (hn : n = []) (hc : ¬ (0 < a.length ∨ 0 < ps.length ∨ t = [] ∨ pe = true)) : ndF (.mk n a t ps) d pe = 0 := by rw [ndF, if_neg (by omega), if_pos hn, if_neg hc]
theorem nd_name (h : d < 10) (hn : ¬ n = []) (hk : nameOk n = false) : ndF (.mk n a t ps) d pe = 5 := by rw [ndF, if_neg (by omega), if_neg hn, if_pos hk]
theorem nd_attr (h : d < 10) (hn : ¬ n = []) (hk : nameOk n = true) (ha : attrsF a ≠ 0) : ndF (.mk n a t ps) d pe = attrsF a := by rw [ndF, if_neg (by omega), if_neg hn, if_neg (by simp [hk]), if_pos ha]
theorem nd_form (h : d < 10) (hn : ¬ n = []) (hk : nameOk n = true) (ha : attrsF a = 0) (hc : t ≠ [] ∨ (n ∈ voidL ∧ 0 < ps.length) ∨ n ∈ rawL) : ndF (.mk n a t ps) d pe = 4 := by rw [ndF, if_neg (by omega), if_neg hn, if_neg (by simp [hk]), if_neg (by simp [ha]), if_pos hc]
theorem nd_parts (h : d < 10) (hn : ¬ n = []) (hk : nameOk n = true) (ha : attrsF a = 0) (hc : ¬ (t ≠ [] ∨ (n ∈ voidL ∧ 0 < ps.length) ∨ n ∈ rawL)) : ndF (.mk n a t ps) d pe = ndL ps (d + 1) false := by rw [ndF, if_neg (by omega), if_neg hn, if_neg (by simp [hk]), if_neg (by simp [ha]), if_neg hc]
end
def peAt (l : List Nd) (k : Nat) : Bool := decide (0 < k) && (match l[k - 1]? with | some x => decide (x.name = []) | none => false)
theorem peAt_zero (l : List Nd) : peAt l 0 = false := rfl
theorem peAt_pos {l : List Nd} {k : Nat} {x : Nd} (h : 0 < k) (hx : l[k - 1]? = some x) : peAt l k = decide (x.name = []) := by unfold peAt; rw [hx]; simp [h]
theorem ndL_step {l : List Nd} {k d : Nat} {x : Nd} (hx : l[k]? = some x) : ndL (l.drop k) d (peAt l k) = if ndF x d (peAt l k) ≠ 0 then ndF x d (peAt l k) else ndL (l.drop (k + 1)) d (peAt l (k + 1)) := by
  obtain ⟨hlt, rfl⟩ := List.getElem?_eq_some_iff.1 hx
  rw [List.drop_eq_getElem_cons hlt, ndL, peAt_pos (l := l) (k := k + 1) (x := l[k]) (by omega) (by simp)]
theorem ndL_hit {l : List Nd} {k d : Nat} {x : Nd} {e : Int} (hx : l[k]? = some x) (hI : ndL l d false = ndL (l.drop k) d (peAt l k)) (he : ndF x d (peAt l k) = e) (h0 : e ≠ 0) : V.int .i64 e = V.int .i64 (ndL l d false) := by
  rw [hI, ndL_step hx, he, if_pos h0]
theorem ndL_next {l : List Nd} {k d : Nat} {x : Nd} (hx : l[k]? = some x) (hI : ndL l d false = ndL (l.drop k) d (peAt l k)) (he : ndF x d (peAt l k) = 0) : ndL l d false = ndL (l.drop (k + 1)) d (peAt l (k + 1)) := by
  rw [hI, ndL_step hx, he, if_neg (by simp)]
theorem ndL_end {l : List Nd} {k d : Nat} (hI : ndL l d false = ndL (l.drop k) d (peAt l k)) (hk : l.length ≤ k) : V.int .i64 0 = V.int .i64 (ndL l d false) := by
  rw [hI, List.drop_eq_nil_of_le hk, ndL]
theorem void_iff (s : List UInt8) : s ∈ voidL ↔ (s = [98, 114] ∨ s = [104, 114] ∨ s = [105, 109, 103] ∨ s = [105, 110, 112, 117, 116]) := by simp [voidL]

/-! ### Words among words -/
theorem show_void (s : List UInt8) : Fn1 Try.prog 86 [.str s] (fun r => r = .bool (decide (s ∈ voidL))) := by
  refine fn1E (T := Try.tt) Try.func86 rfl tt_all follows_all ?_ ?_ fun C hC hE => ?_
  · kernel_rfl
  · exact Nat.le_of_ble_eq_true (by kernel_rfl)
  conv => whnf
  refine call_up (up_freeze 0 (z := 1) (els := voidL.map V.str) rfl ?_ (up_here ?_))
  · exact ⟨trivial, trivial, trivial, trivial, trivial⟩
  conv => whnf
  repeat' (first | (refine brd_t (by first | assumption | omega) ?_; conv => whnf) | (refine brd_f (by first | assumption | omega) ?_; conv => whnf) | (refine ask (by first | assumption | omega) ?_; conv => whnf) | (refine fit64 (by omega) ?_; conv => whnf) | (refine fit (by simp only [kmin, kmax]; omega) ?_; conv => whnf) | (refine br_t (by assumption) ?_; conv => whnf) | (refine br_f (by assumption) ?_; conv => whnf) | (refine get_of (by assumption) ?_; conv => whnf) | (refine get_map (by assumption) ?_; conv => whnf) | (refine call_eq (contains_str voidL s) hC hasBody_101 ?_ ?_ ?_; kernel_rfl; kernel_rfl; conv => whnf) | (refine callq_eq (contains_str voidL s) hC hasBody_101 ?_ ?_ ?_; kernel_rfl; kernel_rfl; conv => whnf) | (refine brd (fun h => ?_) (fun h => ?_) <;> conv => whnf) | (refine br (fun h => ?_) (fun h => ?_) <;> conv => whnf) | (refine ret_now hE ?_; conv => whnf) | (intro hlen; conv => whnf))
  all_goals exact ⟨rfl, by congr 1; exact Eq.symm (by assumption)⟩
theorem show_shut (s : List UInt8) : Fn1 Try.prog 87 [.str s] (fun r => r = .bool (decide (s ∈ rawL))) := by
  refine fn1E (T := Try.tt) Try.func87 rfl tt_all follows_all ?_ ?_ fun C hC hE => ?_
  · kernel_rfl
  · exact Nat.le_of_ble_eq_true (by kernel_rfl)
  conv => whnf
  refine call_up (up_freeze 0 (z := 1) (els := rawL.map V.str) rfl ?_ (up_here ?_))
  · exact ⟨trivial, trivial, trivial, trivial, trivial⟩
  conv => whnf
  repeat' (first | (refine brd_t (by first | assumption | omega) ?_; conv => whnf) | (refine brd_f (by first | assumption | omega) ?_; conv => whnf) | (refine ask (by first | assumption | omega) ?_; conv => whnf) | (refine fit64 (by omega) ?_; conv => whnf) | (refine fit (by simp only [kmin, kmax]; omega) ?_; conv => whnf) | (refine br_t (by assumption) ?_; conv => whnf) | (refine br_f (by assumption) ?_; conv => whnf) | (refine get_of (by assumption) ?_; conv => whnf) | (refine get_map (by assumption) ?_; conv => whnf) | (refine call_eq (contains_str rawL s) hC hasBody_101 ?_ ?_ ?_; kernel_rfl; kernel_rfl; conv => whnf) | (refine callq_eq (contains_str rawL s) hC hasBody_101 ?_ ?_ ?_; kernel_rfl; kernel_rfl; conv => whnf) | (refine brd (fun h => ?_) (fun h => ?_) <;> conv => whnf) | (refine br (fun h => ?_) (fun h => ?_) <;> conv => whnf) | (refine ret_now hE ?_; conv => whnf) | (intro hlen; conv => whnf))
  all_goals exact ⟨rfl, by congr 1; exact Eq.symm (by assumption)⟩
theorem one_of (q : List UInt8) (L : List (List UInt8)) : Fn1 Try.prog 89 [.str q, .lst (L.map V.str)] (fun r => r = .bool (decide (q ∈ L))) := by
  have hlm : (L.map V.str).length = L.length := by simp
  refine fn1E (T := Try.tt) Try.func89 rfl tt_all follows_all ?_ ?_ fun C hC hE => ?_
  · kernel_rfl
  · exact Nat.le_of_ble_eq_true (by kernel_rfl)
  conv => whnf
  intro hl
  conv => whnf
  refine loopE (fun k : Nat => ⟨17, [(0, .str q), (7, .lst (L.map V.str)), (8, .int .i64 (L.map V.str).length), (9, .int .i64 k)], []⟩) (fun k => k ≤ L.length ∧ ∀ j < k, ∀ x, L[j]? = some x → x ≠ q) (fun k => L.length - k) 0 hE ?_ ?_ ⟨Nat.zero_le _, fun j hj => by omega⟩ ?_
  · kernel_rfl
  · exact at_keep [0, 7, 8, 9] rfl
  intro k hk
  obtain ⟨hk, hj⟩ := hk
  by_cases hlt : k < L.length
  · obtain ⟨x, hx⟩ : ∃ x, L[k]? = some x := ⟨_, List.getElem?_eq_getElem hlt⟩
    conv => whnf
    repeat' (first | (refine brd_t (by first | assumption | omega) ?_; conv => whnf) | (refine brd_f (by first | assumption | omega) ?_; conv => whnf) | (refine ask (by first | assumption | omega) ?_; conv => whnf) | (refine fit64 (by omega) ?_; conv => whnf) | (refine fit (by simp only [kmin, kmax]; omega) ?_; conv => whnf) | (refine br_t (by assumption) ?_; conv => whnf) | (refine br_f (by assumption) ?_; conv => whnf) | (refine get_of (by assumption) ?_; conv => whnf) | (refine get_map (by assumption) ?_; conv => whnf) | (refine brd (fun h => ?_) (fun h => ?_) <;> conv => whnf) | (refine br (fun h => ?_) (fun h => ?_) <;> conv => whnf) | (refine ret_now hE ?_; conv => whnf) | (intro hlen; conv => whnf))
    · refine ⟨rfl, ?_⟩
      have h : q = x := by assumption
      rw [h, decide_eq_true (List.mem_of_getElem? hx)]
    · refine next_keep [0, 7, 8, 9] (k + 1) ⟨hlt, fun j hjk x' hx' => ?_⟩ (by omega) rfl
      by_cases e : j = k
      · subst e; rw [hx] at hx'; cases hx'; exact fun h => absurd h.symm (by assumption)
      · exact hj j (by omega) x' hx'
  · conv => whnf
    repeat' (first | (refine brd_t (by first | assumption | omega) ?_; conv => whnf) | (refine brd_f (by first | assumption | omega) ?_; conv => whnf) | (refine ask (by first | assumption | omega) ?_; conv => whnf) | (refine fit64 (by omega) ?_; conv => whnf) | (refine fit (by simp only [kmin, kmax]; omega) ?_; conv => whnf) | (refine br_t (by assumption) ?_; conv => whnf) | (refine br_f (by assumption) ?_; conv => whnf) | (refine get_of (by assumption) ?_; conv => whnf) | (refine get_map (by assumption) ?_; conv => whnf) | (refine brd (fun h => ?_) (fun h => ?_) <;> conv => whnf) | (refine br (fun h => ?_) (fun h => ?_) <;> conv => whnf) | (refine ret_now hE ?_; conv => whnf) | (intro hlen; conv => whnf))
    refine ⟨rfl, ?_⟩
    rw [decide_eq_false]
    intro hm
    obtain ⟨j, hj'⟩ := List.mem_iff_getElem?.1 hm
    exact hj j (by have := (List.getElem?_eq_some_iff.1 hj').1; omega) q hj' rfl
theorem is_void (s : List UInt8) : Fn1 Try.prog 88 [.str s] (fun r => r = .bool (decide (s ∈ voidL))) := by
  refine fn1E (T := Try.tt) Try.func88 rfl tt_all follows_all ?_ ?_ fun C hC hE => ?_
  · kernel_rfl
  · exact Nat.le_of_ble_eq_true (by kernel_rfl)
  conv => whnf
  refine call_up (up_freeze 0 (z := 1) (els := voidL.map V.str) rfl ?_ (up_here ?_))
  · exact ⟨trivial, trivial, trivial, trivial, trivial⟩
  conv => whnf
  repeat' (first | (refine brd_t (by first | assumption | omega) ?_; conv => whnf) | (refine brd_f (by first | assumption | omega) ?_; conv => whnf) | (refine ask (by first | assumption | omega) ?_; conv => whnf) | (refine fit64 (by omega) ?_; conv => whnf) | (refine fit (by simp only [kmin, kmax]; omega) ?_; conv => whnf) | (refine br_t (by assumption) ?_; conv => whnf) | (refine br_f (by assumption) ?_; conv => whnf) | (refine get_of (by assumption) ?_; conv => whnf) | (refine get_map (by assumption) ?_; conv => whnf) | (refine call_eq (one_of s voidL) hC hasBody_89 ?_ ?_ ?_; kernel_rfl; kernel_rfl; conv => whnf) | (refine callq_eq (one_of s voidL) hC hasBody_89 ?_ ?_ ?_; kernel_rfl; kernel_rfl; conv => whnf) | (refine brd (fun h => ?_) (fun h => ?_) <;> conv => whnf) | (refine br (fun h => ?_) (fun h => ?_) <;> conv => whnf) | (refine ret_now hE ?_; conv => whnf) | (intro hlen; conv => whnf))
  all_goals exact ⟨rfl, by congr 1; exact Eq.symm (by assumption)⟩
/-! ### The faults of a list of nodes -/
theorem prev_cases (l : List Nd) {k : Nat} (hlt : k < l.length) : (k = 0 ∧ peAt l k = false) ∨ (0 < k ∧ ∃ (n : List UInt8) (a : List Atr) (t : List UInt8) (ps : List Nd), (nodesL l)[((k : Int) - 1).toNat]? = some (.agg [.str n, .lst (a.map attA), .str t, .lst (nodesL ps)]) ∧ peAt l k = decide (n = [])) := by
  rcases Nat.eq_zero_or_pos k with h | h
  · exact .inl ⟨h, by rw [h]; rfl⟩
  · obtain ⟨n, a, t, ps, hx, hx'⟩ := node_at (l := l) (k := k - 1) (by omega)
    exact .inr ⟨h, n, a, t, ps, by rw [show ((k : Int) - 1).toNat = k - 1 by omega]; exact hx', peAt_pos h hx⟩
set_option maxHeartbeats 8000000 in
theorem show_fault : ∀ (N : Nat) (l : List Nd) (d : Nat), szL l ≤ N → d ≤ 10 → Fn1 Try.prog 53 [.lst (nodesL l), .int .i64 d] (fun r => r = .int .i64 (ndL l d false)) := by
  intro N
  induction N using Nat.strongRecOn with
  | _ N ih =>
    intro l d hps hd
    have hlm := nodesL_length l
    refine fn1E (T := Try.tt) Try.func53 rfl tt_all follows_all ?_ ?_ fun C hC hE => ?_
    · kernel_rfl
    · exact Nat.le_of_ble_eq_true (by kernel_rfl)
    conv => whnf
    intro hl
    conv => whnf
    refine loopE (fun k : Nat => ⟨87, [(0, .lst (nodesL l)), (1, .int .i64 d), (9, .lst (nodesL l)), (10, .int .i64 (nodesL l).length), (11, .int .i64 k)], []⟩) (fun k => k ≤ l.length ∧ ndL l d false = ndL (l.drop k) d (peAt l k)) (fun k => l.length - k) 0 hE ?_ ?_ ⟨Nat.zero_le _, by simp [peAt_zero]⟩ ?_
    · kernel_rfl
    · exact at_keep [0, 1, 9, 10, 11] rfl
    intro k hk
    obtain ⟨hk, hI⟩ := hk
    by_cases hlt : k < l.length
    · obtain ⟨n, a, t, qs, hx, hx'⟩ := node_at hlt
      have hp2 := szL_mem (List.mem_of_getElem? hx)
      have hp1 : szL qs < szN (.mk n a t qs) := szP (n := .mk n a t qs)
      have hlq := nodesL_length qs
      have hla : (a.map attA).length = a.length := by simp
      have ih' : d < 10 → Fn1 Try.prog 53 [.lst (nodesL qs), .int .i64 ((d : Int) + 1)] (fun r => r = .int .i64 (ndL qs (d + 1) false)) := fun h => ih (szL qs) (by omega) qs (d + 1) (Nat.le_refl _) (by omega)
      rcases prev_cases l hlt with ⟨h0, hpe⟩ | ⟨h0, n', a', t', ps', hp, hpe⟩
      all_goals
        conv => whnf
        repeat' (first | (refine brd_t (by first | assumption | omega) ?_; conv => whnf) | (refine brd_f (by first | assumption | omega) ?_; conv => whnf) | (refine ask (by first | assumption | omega) ?_; conv => whnf) | (refine fit64 (by omega) ?_; conv => whnf) | (refine fit (by simp only [kmin, kmax]; omega) ?_; conv => whnf) | (refine br_t (by assumption) ?_; conv => whnf) | (refine br_f (by assumption) ?_; conv => whnf) | (refine get_of (by assumption) ?_; conv => whnf) | (refine get_map (by assumption) ?_; conv => whnf) | (refine call_eq (emit_name _) hC hasBody_40 ?_ ?_ ?_; kernel_rfl; kernel_rfl; conv => whnf) | (refine callq_eq (emit_name _) hC hasBody_40 ?_ ?_ ?_; kernel_rfl; kernel_rfl; conv => whnf) | (refine call_eq (emit_attrs _) hC hasBody_50 ?_ ?_ ?_; kernel_rfl; kernel_rfl; conv => whnf) | (refine callq_eq (emit_attrs _) hC hasBody_50 ?_ ?_ ?_; kernel_rfl; kernel_rfl; conv => whnf) | (refine call_eq (show_void _) hC hasBody_86 ?_ ?_ ?_; kernel_rfl; kernel_rfl; conv => whnf) | (refine callq_eq (show_void _) hC hasBody_86 ?_ ?_ ?_; kernel_rfl; kernel_rfl; conv => whnf) | (refine call_eq (show_shut _) hC hasBody_87 ?_ ?_ ?_; kernel_rfl; kernel_rfl; conv => whnf) | (refine callq_eq (show_shut _) hC hasBody_87 ?_ ?_ ?_; kernel_rfl; kernel_rfl; conv => whnf) | (refine call_eq (ih' (by omega)) hC hasBody_53 ?_ ?_ ?_; kernel_rfl; kernel_rfl; conv => whnf) | (refine callq_eq (ih' (by omega)) hC hasBody_53 ?_ ?_ ?_; kernel_rfl; kernel_rfl; conv => whnf) | (refine brd (fun h => ?_) (fun h => ?_) <;> conv => whnf) | (refine br (fun h => ?_) (fun h => ?_) <;> conv => whnf) | (refine ret_now hE ?_; conv => whnf) | (intro hlen; conv => whnf))
        all_goals first
          | exact ⟨rfl, ndL_hit hx hI (nd_deep (by omega)) (by decide)⟩
          | exact ⟨rfl, ndL_hit hx hI (nd_text4 (by omega) (by first | assumption | exact Eq.symm (by assumption)) (by rw [hpe]; first | omega | (simp_all; done) | (simp_all; omega))) (by decide)⟩
          | exact ⟨rfl, ndL_hit hx hI (nd_name (by omega) (by assumption) (by assumption)) (by decide)⟩
          | exact ⟨rfl, ndL_hit hx hI (nd_attr (by omega) (by assumption) (by assumption) (by assumption)) (by assumption)⟩
          | exact ⟨rfl, ndL_hit hx hI (nd_form (by omega) (by assumption) (by assumption) (by omega) (by first | omega | (simp_all; done) | (simp_all; omega))) (by decide)⟩
          | exact ⟨rfl, ndL_hit hx hI (nd_parts (by omega) (by assumption) (by assumption) (by omega) (by first | omega | (simp_all; done) | (simp_all; omega))) (by assumption)⟩
          | exact next_wipe [0, 1, 9, 10, 11] (k + 1) (by kernel_rfl) ⟨hlt, ndL_next hx hI (nd_text0 (by omega) (by assumption) (by rw [hpe]; rintro (h | h | h | h) <;> first | omega | contradiction | (simp_all; done)))⟩ (by omega) rfl
          | exact next_wipe [0, 1, 9, 10, 11] (k + 1) (by kernel_rfl) ⟨hlt, ndL_next hx hI ((nd_parts (by omega) (by assumption) (by assumption) (by omega) (by first | omega | (simp_all; done) | (simp_all; omega))).trans (by omega))⟩ (by omega) rfl
          | trace_state
    · conv => whnf
      repeat' (first | (refine brd_t (by first | assumption | omega) ?_; conv => whnf) | (refine brd_f (by first | assumption | omega) ?_; conv => whnf) | (refine ask (by first | assumption | omega) ?_; conv => whnf) | (refine fit64 (by omega) ?_; conv => whnf) | (refine fit (by simp only [kmin, kmax]; omega) ?_; conv => whnf) | (refine br_t (by assumption) ?_; conv => whnf) | (refine br_f (by assumption) ?_; conv => whnf) | (refine get_of (by assumption) ?_; conv => whnf) | (refine get_map (by assumption) ?_; conv => whnf) | (refine brd (fun h => ?_) (fun h => ?_) <;> conv => whnf) | (refine br (fun h => ?_) (fun h => ?_) <;> conv => whnf) | (refine ret_now hE ?_; conv => whnf) | (intro hlen; conv => whnf))
      exact ⟨rfl, ndL_end hI (by omega)⟩
set_option maxHeartbeats 8000000 in
theorem nodes_fault : ∀ (N : Nat) (l : List Nd) (d : Nat), szL l ≤ N → N ≤ 1099511627776 → d ≤ 10 → Fn1 Try.prog 55 [.lst (nodesL l), .int .i64 d] (fun r => r = .int .i64 (ndL l d false)) := by
  intro N
  induction N using Nat.strongRecOn with
  | _ N ih =>
    intro l d hps hN hd
    have hlm := nodesL_length l
    refine fn1E (T := Try.tt) Try.func55 rfl tt_all follows_all ?_ ?_ fun C hC hE => ?_
    · kernel_rfl
    · exact Nat.le_of_ble_eq_true (by kernel_rfl)
    conv => whnf
    intro hl
    conv => whnf
    refine loopE (fun k : Nat => ⟨89, [(0, .lst (nodesL l)), (1, .int .i64 d), (10, .lst (nodesL l)), (11, .int .i64 (nodesL l).length), (12, .int .i64 k)], []⟩) (fun k => k ≤ l.length ∧ ndL l d false = ndL (l.drop k) d (peAt l k)) (fun k => l.length - k) 0 hE ?_ ?_ ⟨Nat.zero_le _, by simp [peAt_zero]⟩ ?_
    · kernel_rfl
    · exact at_keep [0, 1, 10, 11, 12] rfl
    intro k hk
    obtain ⟨hk, hI⟩ := hk
    by_cases hlt : k < l.length
    · obtain ⟨n, a, t, qs, hx, hx'⟩ := node_at hlt
      have hp2 := szL_mem (List.mem_of_getElem? hx)
      have hp1 : szL qs < szN (.mk n a t qs) := szP (n := .mk n a t qs)
      have hlq := nodesL_length qs
      have hq1 := szL_len qs
      have hq2 := szA_len a
      have hq3 : (a.map szA).sum < szN (.mk n a t qs) := by simp only [szN]; omega
      have hla : (a.map attA).length = a.length := by simp
      have ih' : d < 10 → Fn1 Try.prog 55 [.lst (nodesL qs), .int .i64 ((d : Int) + 1)] (fun r => r = .int .i64 (ndL qs (d + 1) false)) := fun h => ih (szL qs) (by omega) qs (d + 1) (Nat.le_refl _) (by omega) (by omega)
      rcases prev_cases l hlt with ⟨h0, hpe⟩ | ⟨h0, n', a', t', ps', hp, hpe⟩
      all_goals
        conv => whnf
        repeat' (first | (refine brd_t (by first | assumption | omega) ?_; conv => whnf) | (refine brd_f (by first | assumption | omega) ?_; conv => whnf) | (refine ask (by first | assumption | omega) ?_; conv => whnf) | (refine fit64 (by omega) ?_; conv => whnf) | (refine fit (by simp only [kmin, kmax]; omega) ?_; conv => whnf) | (refine br_t (by assumption) ?_; conv => whnf) | (refine br_f (by assumption) ?_; conv => whnf) | (refine get_of (by assumption) ?_; conv => whnf) | (refine get_map (by assumption) ?_; conv => whnf) | (refine call_eq (name_may _) hC hasBody_43 ?_ ?_ ?_; kernel_rfl; kernel_rfl; conv => whnf) | (refine callq_eq (name_may _) hC hasBody_43 ?_ ?_ ?_; kernel_rfl; kernel_rfl; conv => whnf) | (refine call_eq (attrs_fault _) hC hasBody_52 ?_ ?_ ?_; kernel_rfl; kernel_rfl; conv => whnf) | (refine callq_eq (attrs_fault _) hC hasBody_52 ?_ ?_ ?_; kernel_rfl; kernel_rfl; conv => whnf) | (refine call_eq (is_void _) hC hasBody_88 ?_ ?_ ?_; kernel_rfl; kernel_rfl; conv => whnf) | (refine callq_eq (is_void _) hC hasBody_88 ?_ ?_ ?_; kernel_rfl; kernel_rfl; conv => whnf) | (refine call_eq (one_of _ rawL) hC hasBody_89 ?_ ?_ ?_; kernel_rfl; kernel_rfl; conv => whnf) | (refine callq_eq (one_of _ rawL) hC hasBody_89 ?_ ?_ ?_; kernel_rfl; kernel_rfl; conv => whnf) | (refine call_up (up_freeze 1 (z := 1) (els := rawL.map V.str) rfl ?_ (up_here ?_)); exact ⟨trivial, trivial, trivial, trivial, trivial⟩; conv => whnf) | (refine call_eq (ih' (by omega)) hC hasBody_55 ?_ ?_ ?_; kernel_rfl; kernel_rfl; conv => whnf) | (refine callq_eq (ih' (by omega)) hC hasBody_55 ?_ ?_ ?_; kernel_rfl; kernel_rfl; conv => whnf) | (refine brd (fun h => ?_) (fun h => ?_) <;> conv => whnf) | (refine br (fun h => ?_) (fun h => ?_) <;> conv => whnf) | (refine ret_now hE ?_; conv => whnf) | (intro hlen; conv => whnf))
        all_goals first
          | exact ⟨rfl, ndL_hit hx hI (nd_deep (by omega)) (by decide)⟩
          | exact ⟨rfl, ndL_hit hx hI (nd_text4 (by omega) (by first | assumption | exact Eq.symm (by assumption)) (by rw [hpe]; first | omega | (simp_all; done) | (simp_all; omega))) (by decide)⟩
          | exact ⟨rfl, ndL_hit hx hI (nd_name (by omega) (by assumption) (by assumption)) (by decide)⟩
          | exact ⟨rfl, ndL_hit hx hI (nd_attr (by omega) (by assumption) (by assumption) (by assumption)) (by assumption)⟩
          | exact ⟨rfl, ndL_hit hx hI (nd_form (by omega) (by assumption) (by assumption) (by omega) (by first | omega | (simp_all; done) | (simp_all; omega))) (by decide)⟩
          | exact ⟨rfl, ndL_hit hx hI (nd_parts (by omega) (by assumption) (by assumption) (by omega) (by first | omega | (simp_all; done) | (simp_all; omega))) (by assumption)⟩
          | exact next_wipe [0, 1, 10, 11, 12] (k + 1) (by kernel_rfl) ⟨hlt, ndL_next hx hI (nd_text0 (by omega) (by assumption) (by rw [hpe]; rintro (h | h | h | h) <;> first | omega | contradiction | (simp_all; done)))⟩ (by omega) rfl
          | exact next_wipe [0, 1, 10, 11, 12] (k + 1) (by kernel_rfl) ⟨hlt, ndL_next hx hI ((nd_parts (by omega) (by assumption) (by assumption) (by omega) (by first | omega | (simp_all; done) | (simp_all; omega))).trans (by omega))⟩ (by omega) rfl
          | trace_state
    · conv => whnf
      repeat' (first | (refine brd_t (by first | assumption | omega) ?_; conv => whnf) | (refine brd_f (by first | assumption | omega) ?_; conv => whnf) | (refine ask (by first | assumption | omega) ?_; conv => whnf) | (refine fit64 (by omega) ?_; conv => whnf) | (refine fit (by simp only [kmin, kmax]; omega) ?_; conv => whnf) | (refine br_t (by assumption) ?_; conv => whnf) | (refine br_f (by assumption) ?_; conv => whnf) | (refine get_of (by assumption) ?_; conv => whnf) | (refine get_map (by assumption) ?_; conv => whnf) | (refine brd (fun h => ?_) (fun h => ?_) <;> conv => whnf) | (refine br (fun h => ?_) (fun h => ?_) <;> conv => whnf) | (refine ret_now hE ?_; conv => whnf) | (intro hlen; conv => whnf))
      exact ⟨rfl, ndL_end hI (by omega)⟩
/-! ### The law -/
def showF (l : List Nd) : Int := if ndL l 0 false ≠ 0 then ndL l 0 false else if 150 < cntL l then 1 else 0
theorem show_check (l : List Nd) (hsz : szL l ≤ 1099511627776) : Fn1 Try.prog 27 [.lst (nodesL l)] (fun r => r = .int .i64 (showF l)) := by
  refine fn1E (T := Try.tt) Try.func27 rfl tt_all follows_all ?_ ?_ fun C hC hE => ?_
  · kernel_rfl
  · exact Nat.le_of_ble_eq_true (by kernel_rfl)
  conv => whnf
  repeat' (first | (refine brd_t (by first | assumption | omega) ?_; conv => whnf) | (refine brd_f (by first | assumption | omega) ?_; conv => whnf) | (refine ask (by first | assumption | omega) ?_; conv => whnf) | (refine fit64 (by omega) ?_; conv => whnf) | (refine fit (by simp only [kmin, kmax]; omega) ?_; conv => whnf) | (refine br_t (by assumption) ?_; conv => whnf) | (refine br_f (by assumption) ?_; conv => whnf) | (refine get_of (by assumption) ?_; conv => whnf) | (refine get_map (by assumption) ?_; conv => whnf) | (refine call_eq (show_fault _ l 0 (Nat.le_refl _) (by omega)) hC hasBody_53 ?_ ?_ ?_; kernel_rfl; kernel_rfl; conv => whnf) | (refine callq_eq (show_fault _ l 0 (Nat.le_refl _) (by omega)) hC hasBody_53 ?_ ?_ ?_; kernel_rfl; kernel_rfl; conv => whnf) | (refine call_eq (tree_count _ l (Nat.le_refl _) hsz) hC hasBody_54 ?_ ?_ ?_; kernel_rfl; kernel_rfl; conv => whnf) | (refine callq_eq (tree_count _ l (Nat.le_refl _) hsz) hC hasBody_54 ?_ ?_ ?_; kernel_rfl; kernel_rfl; conv => whnf) | (refine brd (fun h => ?_) (fun h => ?_) <;> conv => whnf) | (refine br (fun h => ?_) (fun h => ?_) <;> conv => whnf) | (refine ret_now hE ?_; conv => whnf) | (intro hlen; conv => whnf))
  all_goals (refine ⟨rfl, congrArg (V.int .i64) ?_⟩; unfold showF; (repeat' split); all_goals first | rfl | omega)
theorem show_faultD (l : List Nd) (hsz : szL l ≤ 1099511627776) : Fn1 Try.prog 28 [.lst (nodesL l)] (fun r => r = .int .i64 (showF l)) := by
  refine fn1E (T := Try.tt) Try.func28 rfl tt_all follows_all ?_ ?_ fun C hC hE => ?_
  · kernel_rfl
  · exact Nat.le_of_ble_eq_true (by kernel_rfl)
  conv => whnf
  repeat' (first | (refine brd_t (by first | assumption | omega) ?_; conv => whnf) | (refine brd_f (by first | assumption | omega) ?_; conv => whnf) | (refine ask (by first | assumption | omega) ?_; conv => whnf) | (refine fit64 (by omega) ?_; conv => whnf) | (refine fit (by simp only [kmin, kmax]; omega) ?_; conv => whnf) | (refine br_t (by assumption) ?_; conv => whnf) | (refine br_f (by assumption) ?_; conv => whnf) | (refine get_of (by assumption) ?_; conv => whnf) | (refine get_map (by assumption) ?_; conv => whnf) | (refine call_eq (nodes_fault _ l 0 (Nat.le_refl _) hsz (by omega)) hC hasBody_55 ?_ ?_ ?_; kernel_rfl; kernel_rfl; conv => whnf) | (refine callq_eq (nodes_fault _ l 0 (Nat.le_refl _) hsz (by omega)) hC hasBody_55 ?_ ?_ ?_; kernel_rfl; kernel_rfl; conv => whnf) | (refine call_eq (tree_count_ref l hsz) hC hasBody_56 ?_ ?_ ?_; kernel_rfl; kernel_rfl; conv => whnf) | (refine callq_eq (tree_count_ref l hsz) hC hasBody_56 ?_ ?_ ?_; kernel_rfl; kernel_rfl; conv => whnf) | (refine brd (fun h => ?_) (fun h => ?_) <;> conv => whnf) | (refine br (fun h => ?_) (fun h => ?_) <;> conv => whnf) | (refine ret_now hE ?_; conv => whnf) | (intro hlen; conv => whnf))
  all_goals (refine ⟨rfl, congrArg (V.int .i64) ?_⟩; unfold showF; (repeat' split); all_goals first | rfl | omega)
theorem showChecks_law (l : List Nd) (hsz : szL l ≤ 1099511627776) : Fn1 Try.prog 9 [.lst (nodesL l)] (fun r => r = .bool true) := by
  refine fn1E (T := Try.tt) Try.func9 rfl tt_all follows_all ?_ ?_ fun C hC hE => ?_
  · kernel_rfl
  · exact Nat.le_of_ble_eq_true (by kernel_rfl)
  conv => whnf
  repeat' (first | (refine brd_t (by first | assumption | omega) ?_; conv => whnf) | (refine brd_f (by first | assumption | omega) ?_; conv => whnf) | (refine ask (by first | assumption | omega) ?_; conv => whnf) | (refine fit64 (by omega) ?_; conv => whnf) | (refine fit (by simp only [kmin, kmax]; omega) ?_; conv => whnf) | (refine br_t (by assumption) ?_; conv => whnf) | (refine br_f (by assumption) ?_; conv => whnf) | (refine get_of (by assumption) ?_; conv => whnf) | (refine get_map (by assumption) ?_; conv => whnf) | (refine call_eq (show_check l hsz) hC hasBody_27 ?_ ?_ ?_; kernel_rfl; kernel_rfl; conv => whnf) | (refine callq_eq (show_check l hsz) hC hasBody_27 ?_ ?_ ?_; kernel_rfl; kernel_rfl; conv => whnf) | (refine call_eq (show_faultD l hsz) hC hasBody_28 ?_ ?_ ?_; kernel_rfl; kernel_rfl; conv => whnf) | (refine callq_eq (show_faultD l hsz) hC hasBody_28 ?_ ?_ ?_; kernel_rfl; kernel_rfl; conv => whnf) | (refine brd (fun h => ?_) (fun h => ?_) <;> conv => whnf) | (refine br (fun h => ?_) (fun h => ?_) <;> conv => whnf) | (refine ret_now hE ?_; conv => whnf) | (intro hlen; conv => whnf))
  all_goals exact ⟨rfl, rfl⟩
theorem showChecks_core : LawCore 9 Try.f9.params.toList (fun H ds => Rows.uptoSmall H ds = true) := by
  refine core_of fun H enc W base args ds ps hval hA hlt hok => ?_
  obtain ⟨a, v, vs, d, ds', q, rfl, rfl, hp, _, hsz, hA', _, _⟩ := arg1 (t := 39) (ts := []) hval hA hlt reads_nodes ⟨fun _ => rfl, by kernel_rfl⟩
  obtain ⟨rfl, rfl⟩ := arg0 hA'
  have hb : Rows.uptoBulk d ≤ 1048576 := by
    simpa [Rows.uptoSmall, Rows.uptoBulkAll] using of_decide_eq_true hok
  exact ⟨_, args_cons hp args_nil, showChecks_law a (by omega)⟩
end Go.Proofs.Ytcfinfdkmpgaaaa
