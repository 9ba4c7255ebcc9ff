/- walk.At, walk.Copy and the document's WalkAt, walked. No conditions. -/
import Derived.Test.YtkkcmobnhiiacaaSame
set_option linter.unusedSimpArgs false
set_option linter.unusedVariables false
set_option maxRecDepth 100000
namespace Go.Proofs.Ytkkcmobnhiiacaa
open Go.RowKit

/-! ### Rows within the reach -/
mutual
def fitN : Nd → Prop
  | .mk _ a _ ps => a.length * 32 ≤ 140737488351232 ∧ ps.length * 80 ≤ 140737488354800 ∧ fitA ps
def fitA : List Nd → Prop
  | [] => True
  | x :: xs => fitN x ∧ fitA xs
end
def fitL (l : List Nd) : Prop := l.length * 80 ≤ 140737488354800 ∧ fitA l
theorem fitA_mem : ∀ {l : List Nd} {x : Nd}, fitA l → x ∈ l → fitN x
  | [], x, _, h => by simp at h
  | y :: l, x, hf, h => by
    rw [fitA] at hf
    rcases List.mem_cons.1 h with rfl | h
    · exact hf.1
    · exact fitA_mem hf.2 h
theorem fitA_of : ∀ {l : List Nd}, (∀ x ∈ l, fitN x) → fitA l
  | [], _ => by simp [fitA]
  | y :: l, h => by
    rw [fitA]
    exact ⟨h y (List.mem_cons_self ..), fitA_of fun x hx => h x (List.mem_cons_of_mem _ hx)⟩
theorem fitN_mk {n : List UInt8} {a : List Atr} {t : List UInt8} {ps : List Nd} : fitN (.mk n a t ps) ↔ a.length * 32 ≤ 140737488351232 ∧ fitL ps := by rw [fitN]; exact Iff.rfl
theorem clone_atts (l : List Atr) (hl : l.length * 32 ≤ 140737488351232) : Fn1 Try.prog 45 [.lst (l.map attA)] (fun r => r = .lst (l.map attA)) := by
  have hlm : (l.map attA).length = l.length := by simp
  have hkl : killL 0 (List.take 0 (List.drop 0 []) ++ l.map attA) = l.map attA := by simp only [List.drop_nil, List.take_nil, List.nil_append, kill_atts]
  refine fn1_nl ?_
  refine fn1E (T := Try.tt) Try.func45 rfl tt_all follows_all ?_ ?_ fun C hC hE => ?_
  · kernel_rfl
  · exact Nat.le_of_ble_eq_true (by kernel_rfl)
  conv => whnf
  repeat' (first | (refine brd_t (by first | assumption | omega) ?_; conv => whnf) | (refine brd_f (by first | assumption | omega) ?_; conv => whnf) | (refine ask (by first | assumption | omega) ?_; conv => whnf) | (refine fit64 (by omega) ?_; conv => whnf) | (refine fit (by simp only [kmin, kmax]; omega) ?_; conv => whnf) | (refine br_t (by assumption) ?_; conv => whnf) | (refine br_f (by assumption) ?_; conv => whnf) | (refine get_of (by assumption) ?_; conv => whnf) | (refine get_map (by assumption) ?_; conv => whnf) | (refine ⟨cells_att l, ?_⟩; conv => whnf) | (refine ret_up (up_frzK 0 2 [] rfl ?_ rfl ?_ rfl (up_here ?_)); (rw [hkl]; exact nr_atts l); (rw [hkl]; omega)) | (refine draw_lex hE ?_ ?_; decide +kernel; conv => whnf) | (refine brd (fun h => ?_) (fun h => ?_) <;> conv => whnf) | (refine br (fun h => ?_) (fun h => ?_) <;> conv => whnf) | (refine ret_now hE ?_; conv => whnf) | (intro hlen; conv => whnf) | (refine seg_here ?_; conv => whnf) | (refine both ?_ ?_ <;> conv => whnf))
  · refine ⟨rfl, ?_⟩
    rw [hlen (by assumption)]
    simp [V.nl, nlL]
  · refine ⟨rfl, ?_⟩
    rw [hkl]
    simp [V.nl, nl_atts]
theorem copy_copies : ∀ (N : Nat), (∀ x : Nd, szN x ≤ N → fitN x → Fn1 Try.prog 39 [nodeA x] (fun r => r = nodeA x)) ∧ (∀ l : List Nd, szL l ≤ N → fitL l → Fn1 Try.prog 25 [.lst (nodesL l)] (fun r => r = .lst (nodesL l))) := by
  intro N
  induction N using Nat.strongRecOn with
  | _ N ih =>
    have hA : ∀ x : Nd, szN x ≤ N → fitN x → Fn1 Try.prog 39 [nodeA x] (fun r => r = nodeA x) := by
      intro x hx hfit
      obtain ⟨n, a, t, qs⟩ := x
      obtain ⟨f1, f2⟩ := fitN_mk.1 hfit
      have h1 : szL qs < szN (.mk n a t qs) := by simp only [szN]; omega
      have hc := (ih (szL qs) (by omega)).2 qs (Nat.le_refl _) f2
      rw [nodeA_mk]
      refine fn1E (T := Try.tt) Try.func39 rfl tt_all follows_all ?_ ?_ fun C hC hE => ?_
      · kernel_rfl
      · exact Nat.le_of_ble_eq_true (by kernel_rfl)
      conv => whnf
      repeat' (first | (refine brd_t (by first | assumption | omega) ?_; conv => whnf) | (refine brd_f (by first | assumption | omega) ?_; conv => whnf) | (refine ask (by first | assumption | omega) ?_; conv => whnf) | (refine fit64 (by omega) ?_; conv => whnf) | (refine fit (by simp only [kmin, kmax]; omega) ?_; conv => whnf) | (refine br_t (by assumption) ?_; conv => whnf) | (refine br_f (by assumption) ?_; conv => whnf) | (refine get_of (by assumption) ?_; conv => whnf) | (refine get_map (by assumption) ?_; conv => whnf) | (refine call_eq (clone_atts a (by omega)) hC hasBody_45 ?_ ?_ ?_; kernel_rfl; kernel_rfl; conv => whnf) | (refine callq_eq (clone_atts a (by omega)) hC hasBody_45 ?_ ?_ ?_; kernel_rfl; kernel_rfl; conv => whnf) | (refine call_eq (hc) hC hasBody_25 ?_ ?_ ?_; kernel_rfl; kernel_rfl; conv => whnf) | (refine callq_eq (hc) hC hasBody_25 ?_ ?_ ?_; kernel_rfl; kernel_rfl; conv => whnf) | (refine draw_lex hE ?_ ?_; decide +kernel; conv => whnf) | (refine brd (fun h => ?_) (fun h => ?_) <;> conv => whnf) | (refine br (fun h => ?_) (fun h => ?_) <;> conv => whnf) | (refine ret_now hE ?_; conv => whnf) | (intro hlen; conv => whnf) | (refine seg_here ?_; conv => whnf) | (refine both ?_ ?_ <;> conv => whnf))
      exact ⟨rfl, rfl⟩
    refine ⟨hA, fun l hsl hfl => ?_⟩
    have hfb := hfl.1
    have hlm := nodesL_length l
    have hl1 := szL_len l
    refine fn1_nl ?_
    refine fn1E (T := Try.tt) Try.func25 rfl tt_all follows_all ?_ ?_ fun C hC hE => ?_
    · kernel_rfl
    · exact Nat.le_of_ble_eq_true (by kernel_rfl)
    conv => whnf
    repeat' (first | (refine brd_t (by first | assumption | omega) ?_; conv => whnf) | (refine brd_f (by first | assumption | omega) ?_; conv => whnf) | (refine ask (by first | assumption | omega) ?_; conv => whnf) | (refine fit64 (by omega) ?_; conv => whnf) | (refine fit (by simp only [kmin, kmax]; omega) ?_; conv => whnf) | (refine br_t (by assumption) ?_; conv => whnf) | (refine br_f (by assumption) ?_; conv => whnf) | (refine get_of (by assumption) ?_; conv => whnf) | (refine get_map (by assumption) ?_; conv => whnf) | (refine draw_lex hE ?_ ?_; decide +kernel; conv => whnf) | (refine brd (fun h => ?_) (fun h => ?_) <;> conv => whnf) | (refine br (fun h => ?_) (fun h => ?_) <;> conv => whnf) | (refine ret_now hE ?_; conv => whnf) | (intro hlen; conv => whnf) | (refine seg_here ?_; conv => whnf) | (refine both ?_ ?_ <;> conv => whnf))
    refine loopE (fun k : Nat => ⟨19, [(3, .sl 0 0 (l.take k).length), (6, .lst (nodesL l)), (7, .int .i64 (nodesL l).length), (8, .int .i64 k)], [some (.row 4 (nodesL (l.take k)))]⟩)
      (fun k => k ≤ l.length) (fun k => l.length - k) 0 hE ?_ ?_ (Nat.zero_le _) ?_
    · kernel_rfl
    · exact up_own 3 4 rfl rfl (at_keep [3, 6, 7, 8] rfl)
    intro k hk
    have hlk : (l.take k).length = k := by rw [List.length_take]; omega
    have hlm' := nodesL_length (l.take k)
    by_cases hlt : k < l.length
    · obtain ⟨n, a, t, qs, hx, hx'⟩ := node_at hlt
      have hcp := hA (.mk n a t qs) (by have := szL_mem (List.mem_of_getElem? hx); omega) (fitA_mem hfl.2 (List.mem_of_getElem? hx))
      rw [nodeA_mk] at hcp
      have htk : List.take (l.take k).length (List.drop 0 (nodesL (l.take k))) = nodesL (l.take k) := by rw [List.drop_zero]; exact List.take_of_length_le (by omega)
      have hft : nodesL (l.take (k + 1)) = nodesL (l.take k) ++ [.agg [.str n, .lst (a.map attA), .str t, .lst (nodesL qs)]] := by rw [List.take_add_one, hx, nodesL_append]; simp [nodesL, nodeA_mk]
      conv => whnf
      repeat' (first | (refine brd_t (by first | assumption | omega) ?_; conv => whnf) | (refine brd_f (by first | assumption | omega) ?_; conv => whnf) | (refine ask (by first | assumption | omega) ?_; conv => whnf) | (refine fit64 (by omega) ?_; conv => whnf) | (refine fit (by simp only [kmin, kmax]; omega) ?_; conv => whnf) | (refine br_t (by assumption) ?_; conv => whnf) | (refine br_f (by assumption) ?_; conv => whnf) | (refine get_of (by assumption) ?_; conv => whnf) | (refine get_map (by assumption) ?_; conv => whnf) | (refine ask (Nat.le_refl 1) ?_; conv => whnf) | (refine ask ⟨?_, ?_, ?_⟩ ?_; omega; (show (l.take k).length + 1 ≤ 9223372036854775807; omega); (show ((l.take k).length + 1) * 80 ≤ 140737488355328; omega); conv => whnf) | (refine call_eq (hcp) hC hasBody_39 ?_ ?_ ?_; kernel_rfl; kernel_rfl; conv => whnf) | (refine callq_eq (hcp) hC hasBody_39 ?_ ?_ ?_; kernel_rfl; kernel_rfl; conv => whnf) | (refine draw_lex hE ?_ ?_; decide +kernel; conv => whnf) | (refine brd (fun h => ?_) (fun h => ?_) <;> conv => whnf) | (refine br (fun h => ?_) (fun h => ?_) <;> conv => whnf) | (refine ret_now hE ?_; conv => whnf) | (intro hlen; conv => whnf) | (refine seg_here ?_; conv => whnf) | (refine both ?_ ?_ <;> conv => whnf))
      refine next_drop [3, 6, 7, 8] [1, 2] (k + 1) hlt (by omega) ?_
      have e2 : killL 2 (killL 1 (killL 0 (List.take (l.take k).length (List.drop 0 (nodesL (l.take k))) ++ List.take 1 (List.drop 0 [.agg [.str n, .lst (a.map attA), .str t, .lst (nodesL qs)]])))) = nodesL (l.take (k + 1)) := by
        rw [show List.take (l.take k).length (List.drop 0 (nodesL (l.take k))) ++ List.take 1 (List.drop 0 [V.agg [.str n, .lst (a.map attA), .str t, .lst (nodesL qs)]]) = nodesL (l.take (k + 1)) from by rw [htk, hft]; rfl, kill_nodes, kill_nodes, kill_nodes]
      have e1 : (l.take k).length + (List.take 1 (List.drop 0 [V.agg [.str n, .lst (a.map attA), .str t, .lst (nodesL qs)]])).length = (l.take (k + 1)).length := by show (l.take k).length + 1 = _; rw [hlk, List.length_take]; omega
      conv => whnf
      rw [e1, e2]
      rfl
    · conv => whnf
      repeat' (first | (refine brd_t (by first | assumption | omega) ?_; conv => whnf) | (refine brd_f (by first | assumption | omega) ?_; conv => whnf) | (refine ask (by first | assumption | omega) ?_; conv => whnf) | (refine fit64 (by omega) ?_; conv => whnf) | (refine fit (by simp only [kmin, kmax]; omega) ?_; conv => whnf) | (refine br_t (by assumption) ?_; conv => whnf) | (refine br_f (by assumption) ?_; conv => whnf) | (refine get_of (by assumption) ?_; conv => whnf) | (refine get_map (by assumption) ?_; conv => whnf) | (refine ret_up (up_frzK 0 2 [] rfl ?_ rfl ?_ rfl (up_here ?_)); exact nodesL_nr _; omega) | (refine draw_lex hE ?_ ?_; decide +kernel; conv => whnf) | (refine brd (fun h => ?_) (fun h => ?_) <;> conv => whnf) | (refine br (fun h => ?_) (fun h => ?_) <;> conv => whnf) | (refine ret_now hE ?_; conv => whnf) | (intro hlen; conv => whnf) | (refine seg_here ?_; conv => whnf) | (refine both ?_ ?_ <;> conv => whnf))
      refine ⟨rfl, ?_⟩
      rw [List.take_of_length_le (by omega)]
      simp [V.nl, nl_nodes]
/-! ### At a path -/
theorem cells_ints (l : List Int) : ∀ y ∈ l.map (V.int .i64), y.cells.length = 1 := fun y hy => by obtain ⟨q, _, rfl⟩ := List.mem_map.1 hy; rfl
def atF : List Nd → List Int → Option Nd
  | _, [] => none
  | l, p :: ps => if p < 0 ∨ (l.length : Int) ≤ p then none else match l[p.toNat]? with
    | none => none
    | some n => if ps = [] then some n else if n.name = [] then none else atF n.parts ps
def nd0 : Nd := .mk [] [] [] []
def atN (o : Option Nd) : Nd := o.getD nd0
def atE (o : Option Nd) : Int := if o.isSome then 0 else 7
def atR (l : List Nd) (path : List Int) : V := .tup [nodeA (atN (atF l path)), .int .i64 (atE (atF l path))]
theorem atR_none {l : List Nd} {path : List Int} (h : atF l path = none) : V.tup [.agg [.str [], .lst [], .str [], .lst []], .int .i64 7] = atR l path := by unfold atR; rw [h]; simp [atN, atE, nd0, nodeA, nodesL]
theorem atR_some {l : List Nd} {path : List Int} {n : List UInt8} {a : List Atr} {t : List UInt8} {ps : List Nd} (h : atF l path = some (.mk n a t ps)) : V.tup [.agg [.str n, .lst (a.map attA), .str t, .lst (nodesL ps)], .int .i64 0] = atR l path := by unfold atR; rw [h]; simp [atN, atE, nodeA]
theorem nl_res (n : List UInt8) (a : List Atr) (t : List UInt8) (ps : List Nd) (e : Int) : (V.tup [.agg [.str n, .lst (a.map attA), .str t, .lst (nodesL ps)], .int .i64 e]).nl = V.tup [.agg [.str n, .lst (a.map attA), .str t, .lst (nodesL ps)], .int .i64 e] := by simp [V.nl, nlL, nl_atts, nl_nodes]
end Go.Proofs.Ytkkcmobnhiiacaa
