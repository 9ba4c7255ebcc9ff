/- walk.Paths and the document's WalkPaths, walked; the law WalkPaths. No conditions. -/
import Derived.Test.YteabokphchpifaaOwn
set_option linter.unusedSimpArgs false
set_option linter.unusedVariables false
set_option maxRecDepth 100000
namespace Go.Proofs.Yteabokphchpifaa
open Go.RowKit

mutual
def pthS : Nd → List (List Int)
  | .mk _ _ _ ps => pthL 0 ps
def pthL (k : Nat) : List Nd → List (List Int)
  | [] => []
  | x :: xs => ([(k : Int)] :: (pthS x).map (fun p => (k : Int) :: p)) ++ pthL (k + 1) xs
end
theorem pthL_step {l : List Nd} {k : Nat} {x : Nd} (hx : l[k]? = some x) : pthL k (l.drop k) = ([(k : Int)] :: (pthS x).map (fun p => (k : Int) :: p)) ++ pthL (k + 1) (l.drop (k + 1)) := by
  obtain ⟨hlt, rfl⟩ := List.getElem?_eq_some_iff.1 hx
  rw [List.drop_eq_getElem_cons hlt, pthL]
mutual
theorem pthS_sz : ∀ x : Nd, (pthS x).length ≤ szN x ∧ ∀ p ∈ pthS x, p.length ≤ szN x
  | .mk n a t ps => by
    have h := pthL_sz ps 0
    have e : szN (.mk n a t ps) = (n.length + 1) + ((a.map szA).sum + 1) + (t.length + 1) + (szL ps + 1) + 1 := by simp only [szN, szS]
    rw [pthS, e]
    exact ⟨by omega, fun p hp => by have := h.2 p hp; omega⟩
theorem pthL_sz : ∀ (l : List Nd) (k : Nat), (pthL k l).length ≤ szL l ∧ ∀ p ∈ pthL k l, p.length ≤ szL l
  | [], k => by rw [pthL]; simp
  | x :: xs, k => by
    have h1 := pthS_sz x
    have h2 := pthL_sz xs (k + 1)
    have e : szL (x :: xs) = szN x + szL xs := by simp [szL_sum]
    have e2 : 1 ≤ szN x := by cases x; simp only [szN]; omega
    have e3 : (pthS x).length + 1 ≤ szN x ∧ ∀ p ∈ pthS x, p.length + 1 ≤ szN x := by
      cases x with
      | mk n a t ps =>
        have h := pthL_sz ps 0
        have e : szN (.mk n a t ps) = (n.length + 1) + ((a.map szA).sum + 1) + (t.length + 1) + (szL ps + 1) + 1 := by simp only [szN, szS]
        rw [pthS, e]
        exact ⟨by omega, fun p hp => by have := h.2 p hp; omega⟩
    rw [pthL, e]
    refine ⟨?_, fun p hp => ?_⟩
    · simp only [List.length_append, List.length_cons, List.length_map]; omega
    · rcases List.mem_append.1 hp with hp | hp
      · rcases List.mem_cons.1 hp with hp | hp
        · subst hp; simp only [List.length_cons, List.length_nil]; omega
        · obtain ⟨q, hq, rfl⟩ := List.mem_map.1 hp
          have := e3.2 q hq
          simp only [List.length_cons]; omega
      · have := h2.2 p hp; omega
end
def pthV (l : List (List Int)) : List V := l.map ints
theorem pthV_len (l : List (List Int)) : (pthV l).length = l.length := by simp [pthV]
theorem pthV_app (a b : List (List Int)) : pthV (a ++ b) = pthV a ++ pthV b := by simp [pthV]
theorem pthV_nr : ∀ l : List (List Int), nrL (pthV l)
  | [] => trivial
  | x :: l => ⟨trivial, pthV_nr l⟩
theorem killL_app (id : Nat) (a b : List V) : killL id (a ++ b) = killL id a ++ killL id b := by
  induction a with
  | nil => simp [killL]
  | cons x a ih => simp only [List.cons_append, killL, ih]
theorem frzL_app (id : Nat) (els a b : List V) : frzL id els (a ++ b) = frzL id els a ++ frzL id els b := by
  induction a with
  | nil => simp [frzL]
  | cons x a ih => simp only [List.cons_append, frzL, ih]
theorem pthV_kill (id : Nat) (l : List (List Int)) : killL id (pthV l) = pthV l := kill_nrL _ (pthV_nr l)
theorem pthV_frz (id : Nat) (els : List V) (l : List (List Int)) : frzL id els (pthV l) = pthV l := frz_nrL _ _ (pthV_nr l)
theorem cells_pi (p : List Int) : ∀ y ∈ p.map (V.int .i64), y.cells.length = 1 := fun y hy => by obtain ⟨q, _, rfl⟩ := List.mem_map.1 hy; rfl
theorem ints_nr (p : List Int) : nrL (p.map (V.int .i64)) := by
  induction p with
  | nil => trivial
  | cons x p ih => exact ⟨trivial, ih⟩
set_option maxHeartbeats 8000000 in
theorem paths_go : ∀ (N : Nat) (l : List Nd), szL l ≤ N → N ≤ 1048576 → Fn1 Try.prog 20 [.lst (nodesL l)] (fun r => r = .lst (pthV (pthL 0 l))) := by
  intro N
  induction N using Nat.strongRecOn with
  | _ N ih =>
    intro l hps hN
    have hlm := nodesL_length l
    have hll := szL_len l
    refine fn1E (T := Try.tt) Try.func20 rfl tt_all follows_all ?_ ?_ fun C hC hE => ?_
    · kernel_rfl
    · exact Nat.le_of_ble_eq_true (by kernel_rfl)
    conv => whnf
    repeat' (first | (refine brd_t (by first | assumption | omega) ?_; conv => whnf) | (refine brd_f (by first | assumption | omega) ?_; conv => whnf) | (refine ask (by first | assumption | omega) ?_; conv => whnf) | (refine fit64 (by omega) ?_; conv => whnf) | (refine fit (by simp only [kmin, kmax]; omega) ?_; conv => whnf) | (refine br_t (by assumption) ?_; conv => whnf) | (refine br_f (by assumption) ?_; conv => whnf) | (refine get_of (by assumption) ?_; conv => whnf) | (refine get_map (by assumption) ?_; conv => whnf) | (refine brd (fun h => ?_) (fun h => ?_) <;> conv => whnf) | (refine br (fun h => ?_) (fun h => ?_) <;> conv => whnf) | (refine ret_now hE ?_; conv => whnf) | (intro hlen; conv => whnf))
    refine loopE (fun ((k, out) : Nat × List (List Int)) => ⟨38, [(3, .sl 0 0 out.length), (8, .lst (nodesL l)), (9, .int .i64 (nodesL l).length), (10, .int .i64 k)], [some (.row 1 (pthV out))]⟩)
      (fun (k, out) => k ≤ l.length ∧ out ++ pthL k (l.drop k) = pthL 0 l) (fun (k, _) => l.length - k) (0, []) hE ?_ ?_ ⟨Nat.zero_le _, rfl⟩ ?_
    · kernel_rfl
    · exact up_own 3 1 rfl rfl (at_keep [3, 8, 9, 10] rfl)
    rintro ⟨k, out⟩ ⟨hk, hI⟩
    have hom := pthV_len out
    have hsz := pthL_sz l 0
    have hol : out.length ≤ szL l := by have := congrArg List.length hI; rw [List.length_append] at this; omega
    have htk : List.take out.length (List.drop 0 (pthV out)) = pthV out := by rw [List.drop_zero]; exact List.take_of_length_le (by omega)
    by_cases hlt : k < l.length
    · obtain ⟨n, a, t, qs, hx, hx'⟩ := node_at hlt
      have hst := pthL_step hx
      rw [hst] at hI
      have hp2 := szL_mem (List.mem_of_getElem? hx)
      have e1 : szN (.mk n a t qs) = (n.length + 1) + ((a.map szA).sum + 1) + (t.length + 1) + (szL qs + 1) + 1 := by simp only [szN, szS]
      have ih' := ih (szL qs) (by omega) qs (Nat.le_refl _) (by omega)
      conv => whnf
      repeat' (first | (refine brd_t (by first | assumption | omega) ?_; conv => whnf) | (refine brd_f (by first | assumption | omega) ?_; conv => whnf) | (refine ask (by first | assumption | omega) ?_; conv => whnf) | (refine fit64 (by omega) ?_; conv => whnf) | (refine fit (by simp only [kmin, kmax]; omega) ?_; conv => whnf) | (refine br_t (by assumption) ?_; conv => whnf) | (refine br_f (by assumption) ?_; conv => whnf) | (refine get_of (by assumption) ?_; conv => whnf) | (refine get_map (by assumption) ?_; conv => whnf) | (refine call_up (up_freeze 2 (z := 1) (els := [.int .i64 (k : Int)]) rfl ?_ (up_here ?_)); exact ⟨trivial, trivial⟩; conv => whnf) | (refine call_eq (ih') hC hasBody_20 ?_ ?_ ?_; kernel_rfl; kernel_rfl; conv => whnf) | (refine callq_eq (ih') hC hasBody_20 ?_ ?_ ?_; kernel_rfl; kernel_rfl; conv => whnf) | (refine ask (Nat.le_refl 1) ?_; conv => whnf) | (refine ask ⟨?_, ?_, ?_⟩ ?_; omega; (show _ + 1 ≤ 9223372036854775807; omega); (show (_ + 1) * 24 ≤ 140737488355328; omega); conv => whnf) | (refine brd (fun h => ?_) (fun h => ?_) <;> conv => whnf) | (refine br (fun h => ?_) (fun h => ?_) <;> conv => whnf) | (refine ret_now hE ?_; conv => whnf) | (intro hlen; conv => whnf))
      have ea : killL 3 (killL 1 (frzL 2 [V.int .i64 (k : Int)] (killL 0 (List.take out.length (List.drop 0 (pthV out)) ++ List.take 1 (List.drop 0 [V.sl 2 0 1]))))) = pthV (out ++ [[(k : Int)]] ++ ((pthS (.mk n a t qs)).take 0).map (fun p => (k : Int) :: p)) := by
        rw [htk, killL_app, pthV_kill, frzL_app, pthV_frz, killL_app, pthV_kill, killL_app, pthV_kill, List.take_zero, List.map_nil, List.append_nil, pthV_app]
        rfl
      have eb : out.length + (List.take 1 (List.drop 0 [V.sl 2 0 1])).length = (out ++ [[(k : Int)]] ++ ((pthS (.mk n a t qs)).take 0).map (fun p => (k : Int) :: p)).length := by simp
      refine loopE (fun j : Nat => ⟨38, [(3, .sl 0 0 (out ++ [[(k : Int)]] ++ ((pthS (.mk n a t qs)).take j).map (fun p => (k : Int) :: p)).length), (4, .int .i64 k), (8, .lst (nodesL l)), (9, .int .i64 (nodesL l).length), (10, .int .i64 k), (22, .lst (pthV (pthL 0 qs))), (23, .int .i64 (pthV (pthL 0 qs)).length), (24, .int .i64 j)], [some (.row 1 (pthV (out ++ [[(k : Int)]] ++ ((pthS (.mk n a t qs)).take j).map (fun p => (k : Int) :: p))))]⟩)
        (fun j => j ≤ (pthL 0 qs).length) (fun j => (pthL 0 qs).length - j) 0 hE ?_ ?_ (Nat.zero_le _) ?_
      · kernel_rfl
      · refine at_drop [3, 4, 8, 9, 10, 22, 23, 24] [1, 3] ?_
        conv => whnf
        rw [ea, eb]
        rfl
      intro j hj
      have hss : pthS (.mk n a t qs) = pthL 0 qs := by rw [pthS]
      rw [hss]
      have hql := pthV_len (pthL 0 qs)
      have hqs := pthL_sz qs 0
      generalize hQ : out ++ [[(k : Int)]] ++ ((pthL 0 qs).take j).map (fun p => (k : Int) :: p) = Q
      have hQl : Q.length = out.length + 1 + j := by rw [← hQ]; simp; omega
      have hQm := pthV_len Q
      have hQk : List.take Q.length (List.drop 0 (pthV Q)) = pthV Q := by rw [List.drop_zero]; exact List.take_of_length_le (by omega)
      by_cases hjl : j < (pthL 0 qs).length
      · obtain ⟨p, hp⟩ : ∃ p, (pthL 0 qs)[j]? = some p := ⟨_, List.getElem?_eq_getElem hjl⟩
        have hpv : (pthV (pthL 0 qs))[j]? = some (ints p) := by unfold pthV; rw [List.getElem?_map, hp]; rfl
        have hps := hqs.2 p (List.mem_of_getElem? hp)
        conv => whnf
        repeat' (first | (refine brd_t (by first | assumption | omega) ?_; conv => whnf) | (refine brd_f (by first | assumption | omega) ?_; conv => whnf) | (refine ask (by first | assumption | omega) ?_; conv => whnf) | (refine fit64 (by omega) ?_; conv => whnf) | (refine fit (by simp only [kmin, kmax]; omega) ?_; conv => whnf) | (refine br_t (by assumption) ?_; conv => whnf) | (refine br_f (by assumption) ?_; conv => whnf) | (refine get_of (by assumption) ?_; conv => whnf) | (refine get_map (by assumption) ?_; conv => whnf) | (refine ⟨cells_pi p, ?_⟩; conv => whnf) | (refine ask (Nat.le_refl 1) ?_; conv => whnf) | (refine ask ⟨?_, ?_, ?_⟩ ?_; (exact Nat.le_refl 1); (simp; omega); (simp; omega); conv => whnf) | (refine ask ⟨?_, ?_, ?_⟩ ?_; (rw [pthV_kill]; omega); (show _ + 1 ≤ 9223372036854775807; omega); (show (_ + 1) * 24 ≤ 140737488355328; omega); conv => whnf) | (refine brd (fun h => ?_) (fun h => ?_) <;> conv => whnf) | (refine br (fun h => ?_) (fun h => ?_) <;> conv => whnf) | (refine ret_now hE ?_; conv => whnf) | (intro hlen; conv => whnf))
        have hE1 : killL 0 (killL 1 (List.take 1 (List.drop 0 [V.int .i64 (k : Int)]) ++ p.map (V.int .i64))) = ((k : Int) :: p).map (V.int .i64) := by
          rw [show List.take 1 (List.drop 0 [V.int .i64 (k : Int)]) ++ p.map (V.int .i64) = ((k : Int) :: p).map (V.int .i64) from rfl, kill_nrL _ (ints_nr _), kill_nrL _ (ints_nr _)]
        have hF : frzL 1 (((k : Int) :: p).map (V.int .i64)) [V.sl 1 0 (1 + (p.map (V.int .i64)).length)] = [ints ((k : Int) :: p)] := by
          simp [frzL, V.frz, ints, Nat.add_comm]
          exact List.take_of_length_le (by simp)
        have ec : killL 2 (frzL 1 (((k : Int) :: p).map (V.int .i64)) (killL 0 (List.take Q.length (List.drop 0 (killL 1 (pthV Q))) ++ List.take 1 (List.drop 0 [V.sl 1 0 (1 + (p.map (V.int .i64)).length)])))) = pthV (Q ++ [(k : Int) :: p]) := by
          rw [pthV_kill, hQk, killL_app, pthV_kill, frzL_app, pthV_frz, show killL 0 (List.take 1 (List.drop 0 [V.sl 1 0 (1 + (p.map (V.int .i64)).length)])) = [V.sl 1 0 (1 + (p.map (V.int .i64)).length)] from rfl, hF, show pthV Q ++ [ints ((k : Int) :: p)] = pthV (Q ++ [(k : Int) :: p]) by rw [pthV_app]; rfl, pthV_kill]
        have hQ2 : out ++ [[(k : Int)]] ++ ((pthL 0 qs).take (j + 1)).map (fun p => (k : Int) :: p) = Q ++ [(k : Int) :: p] := by
          rw [← hQ, List.take_add_one, hp]; simp
        have ed : Q.length + (List.take 1 (List.drop 0 [V.sl 1 0 (1 + (p.map (V.int .i64)).length)])).length = (Q ++ [(k : Int) :: p]).length := by simp
        refine up_freeze 1 (z := 1) (els := ((k : Int) :: p).map (V.int .i64)) (congrArg (fun x => some (some (Ob.row 1 x))) hE1) (ints_nr _) (next_drop [3, 4, 8, 9, 10, 22, 23, 24] [2] (j + 1) (show j + 1 ≤ (pthL 0 qs).length by omega) (show (pthL 0 qs).length - (j + 1) < (pthL 0 qs).length - j by omega) ?_)
        conv => whnf
        rw [hQ2, ec, ed]
        rfl
      · conv => whnf
        repeat' (first | (refine brd_t (by first | assumption | omega) ?_; conv => whnf) | (refine brd_f (by first | assumption | omega) ?_; conv => whnf) | (refine ask (by first | assumption | omega) ?_; conv => whnf) | (refine fit64 (by omega) ?_; conv => whnf) | (refine fit (by simp only [kmin, kmax]; omega) ?_; conv => whnf) | (refine br_t (by assumption) ?_; conv => whnf) | (refine br_f (by assumption) ?_; conv => whnf) | (refine get_of (by assumption) ?_; conv => whnf) | (refine get_map (by assumption) ?_; conv => whnf) | (refine brd (fun h => ?_) (fun h => ?_) <;> conv => whnf) | (refine br (fun h => ?_) (fun h => ?_) <;> conv => whnf) | (refine ret_now hE ?_; conv => whnf) | (intro hlen; conv => whnf))
        exact next_drop [3, 8, 9, 10] [] (k + 1, Q) ⟨hlt, by rw [← hI, ← hQ, hss, List.take_of_length_le (by omega)]; simp⟩ (show l.length - (k + 1) < l.length - k by omega) rfl
    · rw [List.drop_eq_nil_of_le (by omega), pthL, List.append_nil] at hI
      conv => whnf
      repeat' (first | (refine brd_t (by first | assumption | omega) ?_; conv => whnf) | (refine brd_f (by first | assumption | omega) ?_; conv => whnf) | (refine ask (by first | assumption | omega) ?_; conv => whnf) | (refine fit64 (by omega) ?_; conv => whnf) | (refine fit (by simp only [kmin, kmax]; omega) ?_; conv => whnf) | (refine br_t (by assumption) ?_; conv => whnf) | (refine br_f (by assumption) ?_; conv => whnf) | (refine get_of (by assumption) ?_; conv => whnf) | (refine get_map (by assumption) ?_; conv => whnf) | (refine ret_up (up_frzK 0 2 [] rfl (pthV_nr _) rfl (by omega) rfl (up_here ?_))) | (refine brd (fun h => ?_) (fun h => ?_) <;> conv => whnf) | (refine br (fun h => ?_) (fun h => ?_) <;> conv => whnf) | (refine ret_now hE ?_; conv => whnf) | (intro hlen; conv => whnf))
      exact ⟨rfl, by rw [hI]⟩
theorem same_ints (l : List Int) : Fn1 Try.prog 15 [ints l, ints l] (fun r => r = .bool true) := by
  have hlm : (l.map (V.int .i64)).length = l.length := by simp
  refine fn1E (T := Try.tt) Try.func15 rfl tt_all follows_all ?_ ?_ fun C hC hE => ?_
  · kernel_rfl
  · exact Nat.le_of_ble_eq_true (by kernel_rfl)
  conv => whnf
  repeat' (first | (refine brd_t (by first | assumption | omega) ?_; conv => whnf) | (refine brd_f (by first | assumption | omega) ?_; conv => whnf) | (refine ask (by first | assumption | omega) ?_; conv => whnf) | (refine fit64 (by omega) ?_; conv => whnf) | (refine fit (by simp only [kmin, kmax]; omega) ?_; conv => whnf) | (refine br_t (by assumption) ?_; conv => whnf) | (refine br_f (by assumption) ?_; conv => whnf) | (refine get_of (by assumption) ?_; conv => whnf) | (refine get_map (by assumption) ?_; conv => whnf) | (refine brd (fun h => ?_) (fun h => ?_) <;> conv => whnf) | (refine br (fun h => ?_) (fun h => ?_) <;> conv => whnf) | (refine ret_now hE ?_; conv => whnf) | (intro hlen; conv => whnf))
  refine loopE (fun k : Nat => ⟨26, [(0, ints l), (1, ints l), (5, .int .i64 k)], []⟩) (fun k => k ≤ l.length) (fun k => l.length - k) 0 hE ?_ ?_ (Nat.zero_le _) ?_
  · kernel_rfl
  · exact at_keep [0, 1, 5] rfl
  intro k hk
  by_cases hlt : k < l.length
  · obtain ⟨x, hx⟩ : ∃ x, l[k]? = some x := ⟨_, List.getElem?_eq_getElem hlt⟩
    conv => whnf
    repeat' (first | (refine brd_t (by first | assumption | omega) ?_; conv => whnf) | (refine brd_f (by first | assumption | omega) ?_; conv => whnf) | (refine ask (by first | assumption | omega) ?_; conv => whnf) | (refine fit64 (by omega) ?_; conv => whnf) | (refine fit (by simp only [kmin, kmax]; omega) ?_; conv => whnf) | (refine br_t (by assumption) ?_; conv => whnf) | (refine br_f (by assumption) ?_; conv => whnf) | (refine get_of (by assumption) ?_; conv => whnf) | (refine get_map (by assumption) ?_; conv => whnf) | (refine brd_t rfl ?_; conv => whnf) | (refine brd (fun h => ?_) (fun h => ?_) <;> conv => whnf) | (refine br (fun h => ?_) (fun h => ?_) <;> conv => whnf) | (refine ret_now hE ?_; conv => whnf) | (intro hlen; conv => whnf))
    all_goals first | exact next_keep [0, 1, 5] (k + 1) (show k + 1 ≤ l.length by omega) (show l.length - (k + 1) < l.length - k by omega) rfl | (exfalso; simp_all; done)
  · conv => whnf
    repeat' (first | (refine brd_t (by first | assumption | omega) ?_; conv => whnf) | (refine brd_f (by first | assumption | omega) ?_; conv => whnf) | (refine ask (by first | assumption | omega) ?_; conv => whnf) | (refine fit64 (by omega) ?_; conv => whnf) | (refine fit (by simp only [kmin, kmax]; omega) ?_; conv => whnf) | (refine br_t (by assumption) ?_; conv => whnf) | (refine br_f (by assumption) ?_; conv => whnf) | (refine get_of (by assumption) ?_; conv => whnf) | (refine get_map (by assumption) ?_; conv => whnf) | (refine brd (fun h => ?_) (fun h => ?_) <;> conv => whnf) | (refine br (fun h => ?_) (fun h => ?_) <;> conv => whnf) | (refine ret_now hE ?_; conv => whnf) | (intro hlen; conv => whnf))
    exact ⟨rfl, rfl⟩
end Go.Proofs.Yteabokphchpifaa
