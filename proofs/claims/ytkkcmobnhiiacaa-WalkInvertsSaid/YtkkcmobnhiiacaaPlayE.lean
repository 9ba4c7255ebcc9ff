/- The document's WalkPlayed, walked. No conditions. -/
import Derived.Test.YtkkcmobnhiiacaaPlayD
set_option linter.unusedSimpArgs false
set_option linter.unusedVariables false
set_option maxRecDepth 100000
namespace Go.Proofs.Ytkkcmobnhiiacaa
open Go.RowKit

def rowN (xs : List (List Nd)) : List V := xs.map fun x => .lst (nodesL x)
theorem rowN_nr (xs : List (List Nd)) : nrL (rowN xs) := by
  rw [nrL_mem]
  intro x hx
  obtain ⟨q, _, rfl⟩ := List.mem_map.1 hx
  trivial
theorem nl_rowN (xs : List (List Nd)) : nlL (rowN xs) = rowN xs := by
  unfold rowN
  induction xs with
  | nil => simp [nlL]
  | cons x xs ih => simp only [List.map_cons, nlL, ih]; simp [V.nl, nl_nodes]
theorem rowN_len (xs : List (List Nd)) : (rowN xs).length = xs.length := by simp [rowN]
theorem rowN_app (xs : List (List Nd)) (y : List Nd) : rowN (xs ++ [y]) = rowN xs ++ [.lst (nodesL y)] := by simp [rowN]
theorem rowN_last (xs : List (List Nd)) (y : List Nd) : (rowN (xs ++ [y]))[xs.length]? = some (.lst (nodesL y)) := by simp [rowN]
/-- What the inner loop has put down before its round k. -/
def nxF (kd i : Int) (x : Nd) (list : List Nd) : Nat → List Nd
  | 0 => []
  | k + 1 => nxF kd i x list k ++ (if (k : Int) = i ∧ kd ≠ 2 then [x] else []) ++ (match list[k]? with | none => [] | some n => if (k : Int) ≠ i ∨ kd = 1 then [n] else [])
theorem nxF_len (kd i : Int) (x : Nd) (list : List Nd) : ∀ k, (nxF kd i x list k).length ≤ min k list.length + (if i < (k : Int) then 1 else 0)
  | 0 => by simp [nxF]
  | k + 1 => by
    have ih := nxF_len kd i x list k
    rw [nxF, List.length_append, List.length_append]
    have h2 : (match list[k]? with | none => [] | some n => if (k : Int) ≠ i ∨ kd = 1 then [n] else []).length ≤ min (k + 1) list.length - min k list.length := by
      split
      · simp
      · rename_i n hn
        obtain ⟨hl, _⟩ := List.getElem?_eq_some_iff.1 hn
        split <;> simp <;> omega
    by_cases hk : (k : Int) = i ∧ kd ≠ 2
    · rw [if_pos hk]
      rw [if_neg (by omega)] at ih
      rw [if_pos (by omega)]
      simp only [List.length_singleton]
      omega
    · rw [if_neg hk]
      simp only [List.length_nil]
      split at ih
      · rw [if_pos (by omega)]; omega
      · omega
theorem nxF_mem {kd i : Int} {x : Nd} {list : List Nd} : ∀ {k : Nat} {y : Nd}, y ∈ nxF kd i x list k → y = x ∨ y ∈ list
  | 0, y, h => by simp [nxF] at h
  | k + 1, y, h => by
    rw [nxF, List.mem_append, List.mem_append] at h
    rcases h with (h | h) | h
    · exact nxF_mem h
    · split at h
      · exact .inl (List.mem_singleton.1 h)
      · simp at h
    · split at h
      · simp at h
      · rename_i n hn
        split at h
        · rw [List.mem_singleton.1 h]; exact .inr (List.mem_of_getElem? hn)
        · simp at h
theorem gL_nx {m : Nat} {kd i : Int} {x : Nd} {list : List Nd} (hx : gN 0 x) (hl : gL m list) (hk : kd ≠ 1 → i < (list.length : Int)) (k : Nat) (hkl : k ≤ list.length + 1) : (nxF kd i x list k).length ≤ list.length + 1 ∧ gA (m + 1) (nxF kd i x list k) := by
  refine ⟨?_, gA_iff.2 fun y hy => ?_⟩
  · have := nxF_len kd i x list k
    split at this <;> omega
  · rcases nxF_mem hy with rfl | h
    · exact gN_up (Nat.zero_le _) _ hx
    · exact gN_up (by omega) y (gA_iff.1 hl.2 y h)
theorem gL_at {m : Nat} (path : List Int) : ∀ l : List Nd, gL m l → gL m (atN (atF l path)).parts := by
  induction path with
  | nil => intro l hl; simp only [atF, atN, Option.getD_none, nd0, Nd.parts]; exact gL_nil m
  | cons p ps ih =>
    intro l hl
    rw [atF]
    split
    · exact gL_nil m
    · split
      · exact gL_nil m
      · rename_i n hn
        have hx := gA_iff.1 hl.2 n (List.mem_of_getElem? hn)
        cases n with
        | mk nn na nt nq =>
          have hq := (gN_mk.1 hx).2
          split
          · exact hq
          · split
            · exact gL_nil m
            · exact ih nq hq
theorem gL_lst {m : Nat} {l : List Nd} (hl : gL m l) (path : List Int) : gL m (lstF l path).1 := by
  unfold lstF
  split
  · exact hl
  · exact gL_at _ l hl
/-- One change, as the document plays it. -/
def lastP (path : List Int) : Int := path.getD (path.length - 1) 0
def docS (l : List Nd) (c : Ch) : Except Int (List Nd) :=
  if c.kind < 1 ∨ 3 < c.kind then .error 3 else if c.kind = 2 ∧ emptyN c.node = false then .error 4 else if c.path = [] then .error 7
  else if (lstF l c.path).2 = false ∨ lastP c.path < 0 ∨ ((lstF l c.path).1.length : Int) < lastP c.path ∨ c.kind ≠ 1 ∧ lastP c.path = ((lstF l c.path).1.length : Int) then .error 7
  else .ok (wlF l c.path (nxF c.kind (lastP c.path) c.node (lstF l c.path).1 ((lstF l c.path).1.length + 1)))
def docA : List (List Nd) → List Nd → List Ch → Except Int (List (List Nd))
  | pre, now, [] => .ok (pre ++ [now])
  | pre, now, c :: cs => match docS now c with
    | .error e => .error e
    | .ok x => docA (pre ++ [now]) x cs
def docP (l : List Nd) (cs : List Ch) : Except Int (List (List Nd)) := if 40 < cs.length then .error 1 else docA [] l cs
def docV : Except Int (List (List Nd)) → V
  | .ok all => .tup [.lst (rowN all), .int .i64 0]
  | .error e => .tup [.lst [], .int .i64 e]
theorem docA_step {cs : List Ch} {k : Nat} {c : Ch} (h : cs[k]? = some c) (pre : List (List Nd)) (now : List Nd) : docA pre now (cs.drop k) = match docS now c with
    | .error e => .error e
    | .ok x => docA (pre ++ [now]) x (cs.drop (k + 1)) := by
  obtain ⟨hl, hq⟩ := List.getElem?_eq_some_iff.1 h
  rw [← hq, List.drop_eq_getElem_cons hl, docA]
set_option maxHeartbeats 8000000 in
theorem ref_Played (l : List Nd) (hl : gL 0 l) (cs : List Ch) (hc : ∀ c ∈ cs, gN 0 c.node ∧ c.path.length * 8 ≤ 140737488351232) : Fn1 Try.prog 12 [.lst (nodesL l), .lst (cs.map chA)] (fun r => r = docV (docP l cs)) := by
  have hcm : (cs.map chA).length = cs.length := by simp
  refine fn1_nl ?_
  by_cases h40 : 40 < cs.length
  · rw [show docP l cs = .error 1 from if_pos h40]
    refine fn1E (T := Try.tt) Try.func12 rfl tt_all follows_all ?_ ?_ fun C hC hE => ?_
    · kernel_rfl
    · exact Nat.le_of_ble_eq_true (by kernel_rfl)
    conv => whnf
    repeat' (first | (refine brd_t (by first | assumption | omega) ?_; conv => whnf) | (refine brd_f (by first | assumption | omega) ?_; conv => whnf) | (refine ask (by first | assumption | omega) ?_; conv => whnf) | (refine fit64 (by omega) ?_; conv => whnf) | (refine fit (by simp only [kmin, kmax]; omega) ?_; conv => whnf) | (refine br_t (by assumption) ?_; conv => whnf) | (refine br_f (by assumption) ?_; conv => whnf) | (refine get_of (by assumption) ?_; conv => whnf) | (refine get_map (by assumption) ?_; conv => whnf) | (refine draw_lex hE ?_ ?_; decide +kernel; conv => whnf) | (refine brd (fun h => ?_) (fun h => ?_) <;> conv => whnf) | (refine br (fun h => ?_) (fun h => ?_) <;> conv => whnf) | (refine ret_now hE ?_; conv => whnf) | (intro hlen; conv => whnf) | (refine seg_here ?_; conv => whnf) | (refine both ?_ ?_ <;> conv => whnf))
    all_goals exact ⟨rfl, by simp [V.nl, nlL, docV]⟩
  · rw [show docP l cs = docA [] l cs from if_neg h40]
    refine fn1E (T := Try.tt) Try.func12 rfl tt_all follows_all ?_ ?_ fun C hC hE => ?_
    · kernel_rfl
    · exact Nat.le_of_ble_eq_true (by kernel_rfl)
    conv => whnf
    repeat' (first | (refine brd_t (by first | assumption | omega) ?_; conv => whnf) | (refine brd_f (by first | assumption | omega) ?_; conv => whnf) | (refine ask (by first | assumption | omega) ?_; conv => whnf) | (refine fit64 (by omega) ?_; conv => whnf) | (refine fit (by simp only [kmin, kmax]; omega) ?_; conv => whnf) | (refine br_t (by assumption) ?_; conv => whnf) | (refine br_f (by assumption) ?_; conv => whnf) | (refine get_of (by assumption) ?_; conv => whnf) | (refine get_map (by assumption) ?_; conv => whnf) | (refine draw_lex hE ?_ ?_; decide +kernel; conv => whnf) | (refine brd (fun h => ?_) (fun h => ?_) <;> conv => whnf) | (refine br (fun h => ?_) (fun h => ?_) <;> conv => whnf) | (refine ret_now hE ?_; conv => whnf) | (intro hlen; conv => whnf) | (refine seg_here ?_; conv => whnf) | (refine both ?_ ?_ <;> conv => whnf))
    refine loopE (fun ((k, pre, now) : Nat × List (List Nd) × List Nd) => ⟨146, [(6, .sl 0 0 (pre ++ [now]).length), (20, .lst (cs.map chA)), (21, .int .i64 (cs.map chA).length), (22, .int .i64 k)], [some (.row 1 (rowN (pre ++ [now])))]⟩)
      (fun (k, pre, now) => k ≤ cs.length ∧ pre.length = k ∧ gL k now ∧ docA [] l cs = docA pre now (cs.drop k)) (fun (k, _) => cs.length - k) (0, [], l) hE ?_ ?_ ⟨Nat.zero_le _, rfl, hl, by rw [List.drop_zero]⟩ ?_
    · kernel_rfl
    · exact at_keep [6, 20, 21, 22] rfl
    rintro ⟨k, pre, now⟩ ⟨hk, hpl, hg, hI⟩
    have hk : k ≤ cs.length := hk
    have hpl : pre.length = k := hpl
    have hg : gL k now := hg
    have hI : docA [] l cs = docA pre now (cs.drop k) := hI
    have hrl := rowN_len (pre ++ [now])
    have hpn : (pre ++ [now]).length = k + 1 := by simp [hpl]
    have hlast : (rowN (pre ++ [now]))[0 + (((pre ++ [now]).length : Int) - 1).toNat]? = some (.lst (nodesL now)) := by rw [show 0 + (((pre ++ [now]).length : Int) - 1).toNat = pre.length by rw [hpn]; omega]; exact rowN_last pre now
    by_cases hlt : k < cs.length
    · obtain ⟨kd, p, n, a, t, ps, hx, hx'⟩ := chs_at hlt
      have hcx : gN 0 (.mk n a t ps) ∧ p.length * 8 ≤ 140737488351232 := hc _ (List.mem_of_getElem? hx)
      have hfn : fitN (.mk n a t ps) := gN_fit (by omega) _ hcx.1
      have hst := docA_step hx pre now
      have hem := ref_empty (.mk n a t ps) hfn
      rw [nodeA_mk] at hem
      have hpm : (p.map (V.int .i64)).length = p.length := by simp
      unfold docS at hst
      simp only at hst
      by_cases hk3 : kd < 1 ∨ 3 < kd
      · rw [if_pos hk3] at hst
        rw [hI, hst]
        conv => whnf
        repeat' (first | (refine brd_t (by first | assumption | omega) ?_; conv => whnf) | (refine brd_f (by first | assumption | omega) ?_; conv => whnf) | (refine ask (by first | assumption | omega) ?_; conv => whnf) | (refine fit64 (by omega) ?_; conv => whnf) | (refine fit (by simp only [kmin, kmax]; omega) ?_; conv => whnf) | (refine br_t (by assumption) ?_; conv => whnf) | (refine br_f (by assumption) ?_; conv => whnf) | (refine get_of (by assumption) ?_; conv => whnf) | (refine get_map (by assumption) ?_; conv => whnf) | (refine draw_lex hE ?_ ?_; decide +kernel; conv => whnf) | (refine brd (fun h => ?_) (fun h => ?_) <;> conv => whnf) | (refine br (fun h => ?_) (fun h => ?_) <;> conv => whnf) | (refine ret_now hE ?_; conv => whnf) | (intro hlen; conv => whnf) | (refine seg_here ?_; conv => whnf) | (refine both ?_ ?_ <;> conv => whnf))
        all_goals exact ⟨rfl, by simp [V.nl, nlL, docV]⟩
      · rw [if_neg hk3] at hst
        by_cases hk4 : kd = 2 ∧ emptyN (.mk n a t ps) = false
        · rw [if_pos hk4] at hst
          rw [hI, hst]
          obtain ⟨rfl, hem2⟩ := hk4
          rw [hem2] at hem
          conv => whnf
          repeat' (first | (refine brd_t (by first | assumption | omega) ?_; conv => whnf) | (refine brd_f (by first | assumption | omega) ?_; conv => whnf) | (refine ask (by first | assumption | omega) ?_; conv => whnf) | (refine fit64 (by omega) ?_; conv => whnf) | (refine fit (by simp only [kmin, kmax]; omega) ?_; conv => whnf) | (refine br_t (by assumption) ?_; conv => whnf) | (refine br_f (by assumption) ?_; conv => whnf) | (refine get_of (by assumption) ?_; conv => whnf) | (refine get_map (by assumption) ?_; conv => whnf) | (refine call_eq (hem) hC hasBody_26 ?_ ?_ ?_; kernel_rfl; kernel_rfl; conv => whnf) | (refine callq_eq (hem) hC hasBody_26 ?_ ?_ ?_; kernel_rfl; kernel_rfl; conv => whnf) | (refine draw_lex hE ?_ ?_; decide +kernel; conv => whnf) | (refine brd (fun h => ?_) (fun h => ?_) <;> conv => whnf) | (refine br (fun h => ?_) (fun h => ?_) <;> conv => whnf) | (refine ret_now hE ?_; conv => whnf) | (intro hlen; conv => whnf) | (refine seg_here ?_; conv => whnf) | (refine both ?_ ?_ <;> conv => whnf))
          all_goals exact ⟨rfl, by simp [V.nl, nlL, docV]⟩
        · rw [if_neg hk4] at hst
          have hemc : kd = 2 → emptyN (.mk n a t ps) = true := fun e => by
            cases hh : emptyN (.mk n a t ps) with
            | true => rfl
            | false => exact absurd ⟨e, hh⟩ hk4
          by_cases hp0 : p = []
          · rw [if_pos hp0] at hst
            rw [hI, hst]
            subst hp0
            have hpm0 : (([] : List Int).map (V.int .i64)).length = 0 := rfl
            by_cases hk2 : kd = 2
            · rw [hemc hk2] at hem
              conv => whnf
              repeat' (first | (refine brd_t (by first | assumption | omega) ?_; conv => whnf) | (refine brd_f (by first | assumption | omega) ?_; conv => whnf) | (refine ask (by first | assumption | omega) ?_; conv => whnf) | (refine fit64 (by omega) ?_; conv => whnf) | (refine fit (by simp only [kmin, kmax]; omega) ?_; conv => whnf) | (refine br_t (by assumption) ?_; conv => whnf) | (refine br_f (by assumption) ?_; conv => whnf) | (refine get_of (by assumption) ?_; conv => whnf) | (refine get_map (by assumption) ?_; conv => whnf) | (refine call_eq (hem) hC hasBody_26 ?_ ?_ ?_; kernel_rfl; kernel_rfl; conv => whnf) | (refine callq_eq (hem) hC hasBody_26 ?_ ?_ ?_; kernel_rfl; kernel_rfl; conv => whnf) | (refine draw_lex hE ?_ ?_; decide +kernel; conv => whnf) | (refine brd (fun h => ?_) (fun h => ?_) <;> conv => whnf) | (refine br (fun h => ?_) (fun h => ?_) <;> conv => whnf) | (refine ret_now hE ?_; conv => whnf) | (intro hlen; conv => whnf) | (refine seg_here ?_; conv => whnf) | (refine both ?_ ?_ <;> conv => whnf))
              all_goals exact ⟨rfl, by simp [V.nl, nlL, docV]⟩
            · conv => whnf
              repeat' (first | (refine brd_t (by first | assumption | omega) ?_; conv => whnf) | (refine brd_f (by first | assumption | omega) ?_; conv => whnf) | (refine ask (by first | assumption | omega) ?_; conv => whnf) | (refine fit64 (by omega) ?_; conv => whnf) | (refine fit (by simp only [kmin, kmax]; omega) ?_; conv => whnf) | (refine br_t (by assumption) ?_; conv => whnf) | (refine br_f (by assumption) ?_; conv => whnf) | (refine get_of (by assumption) ?_; conv => whnf) | (refine get_map (by assumption) ?_; conv => whnf) | (refine draw_lex hE ?_ ?_; decide +kernel; conv => whnf) | (refine brd (fun h => ?_) (fun h => ?_) <;> conv => whnf) | (refine br (fun h => ?_) (fun h => ?_) <;> conv => whnf) | (refine ret_now hE ?_; conv => whnf) | (intro hlen; conv => whnf) | (refine seg_here ?_; conv => whnf) | (refine both ?_ ?_ <;> conv => whnf))
              all_goals exact ⟨rfl, by simp [V.nl, nlL, docV]⟩
          · rw [if_neg hp0] at hst
            have hpp : 0 < p.length := List.length_pos_iff.2 hp0
            have hla := ref_listAt now p hpp hcx.2
            have hgl := gL_lst hg p
            have hwl := fun (q : List Nd) => ref_withList q p k now (by omega) hg hpp
            have hgw := fun (q : List Nd) (hq : gL (k + 1) q) => gL_wl hq p now hg
            have hpl2 : (p.map (V.int .i64))[(((p.map (V.int .i64)).length : Int) - 1).toNat]? = some (.int .i64 (lastP p)) := by
              rw [hpm, show ((p.length : Int) - 1).toNat = p.length - 1 by omega, List.getElem?_map, List.getElem?_eq_getElem (by omega)]
              unfold lastP
              rw [List.getD_eq_getElem?_getD, List.getElem?_eq_getElem (by omega)]
              rfl
            generalize lastP p = i at *
            generalize lstF now p = R at *
            obtain ⟨list, ok⟩ := R
            simp only at hla hst hgl
            have hlm := nodesL_length list
            have hlb := hgl.1
            by_cases hbad : ok = false ∨ i < 0 ∨ (list.length : Int) < i ∨ kd ≠ 1 ∧ i = (list.length : Int)
            · rw [if_pos hbad] at hst
              rw [hI, hst]
              cases ok
              · by_cases hk2 : kd = 2
                · rw [hemc hk2] at hem
                  conv => whnf
                  repeat' (first | (refine brd_t (by first | assumption | omega) ?_; conv => whnf) | (refine brd_f (by first | assumption | omega) ?_; conv => whnf) | (refine ask (by first | assumption | omega) ?_; conv => whnf) | (refine fit64 (by omega) ?_; conv => whnf) | (refine fit (by simp only [kmin, kmax]; omega) ?_; conv => whnf) | (refine br_t (by assumption) ?_; conv => whnf) | (refine br_f (by assumption) ?_; conv => whnf) | (refine get_of (by assumption) ?_; conv => whnf) | (refine get_map (by assumption) ?_; conv => whnf) | (refine call_eq (hem) hC hasBody_26 ?_ ?_ ?_; kernel_rfl; kernel_rfl; conv => whnf) | (refine callq_eq (hem) hC hasBody_26 ?_ ?_ ?_; kernel_rfl; kernel_rfl; conv => whnf) | (refine call_eq (hla) hC hasBody_27 ?_ ?_ ?_; kernel_rfl; kernel_rfl; conv => whnf) | (refine callq_eq (hla) hC hasBody_27 ?_ ?_ ?_; kernel_rfl; kernel_rfl; conv => whnf) | (refine draw_lex hE ?_ ?_; decide +kernel; conv => whnf) | (refine brd (fun h => ?_) (fun h => ?_) <;> conv => whnf) | (refine br (fun h => ?_) (fun h => ?_) <;> conv => whnf) | (refine ret_now hE ?_; conv => whnf) | (intro hlen; conv => whnf) | (refine seg_here ?_; conv => whnf) | (refine both ?_ ?_ <;> conv => whnf))
                  all_goals exact ⟨rfl, by simp [V.nl, nlL, docV]⟩
                · conv => whnf
                  repeat' (first | (refine brd_t (by first | assumption | omega) ?_; conv => whnf) | (refine brd_f (by first | assumption | omega) ?_; conv => whnf) | (refine ask (by first | assumption | omega) ?_; conv => whnf) | (refine fit64 (by omega) ?_; conv => whnf) | (refine fit (by simp only [kmin, kmax]; omega) ?_; conv => whnf) | (refine br_t (by assumption) ?_; conv => whnf) | (refine br_f (by assumption) ?_; conv => whnf) | (refine get_of (by assumption) ?_; conv => whnf) | (refine get_map (by assumption) ?_; conv => whnf) | (refine call_eq (hla) hC hasBody_27 ?_ ?_ ?_; kernel_rfl; kernel_rfl; conv => whnf) | (refine callq_eq (hla) hC hasBody_27 ?_ ?_ ?_; kernel_rfl; kernel_rfl; conv => whnf) | (refine draw_lex hE ?_ ?_; decide +kernel; conv => whnf) | (refine brd (fun h => ?_) (fun h => ?_) <;> conv => whnf) | (refine br (fun h => ?_) (fun h => ?_) <;> conv => whnf) | (refine ret_now hE ?_; conv => whnf) | (intro hlen; conv => whnf) | (refine seg_here ?_; conv => whnf) | (refine both ?_ ?_ <;> conv => whnf))
                  all_goals exact ⟨rfl, by simp [V.nl, nlL, docV]⟩
              · have hbad : i < 0 ∨ (list.length : Int) < i ∨ kd ≠ 1 ∧ i = (list.length : Int) := by rcases hbad with h | h; exact absurd h (by decide); exact h
                by_cases hk2 : kd = 2
                · rw [hemc hk2] at hem
                  conv => whnf
                  repeat' (first | (refine brd_t (by first | assumption | omega) ?_; conv => whnf) | (refine brd_f (by first | assumption | omega) ?_; conv => whnf) | (refine ask (by first | assumption | omega) ?_; conv => whnf) | (refine fit64 (by omega) ?_; conv => whnf) | (refine fit (by simp only [kmin, kmax]; omega) ?_; conv => whnf) | (refine br_t (by assumption) ?_; conv => whnf) | (refine br_f (by assumption) ?_; conv => whnf) | (refine get_of (by assumption) ?_; conv => whnf) | (refine get_map (by assumption) ?_; conv => whnf) | (refine call_eq (hem) hC hasBody_26 ?_ ?_ ?_; kernel_rfl; kernel_rfl; conv => whnf) | (refine callq_eq (hem) hC hasBody_26 ?_ ?_ ?_; kernel_rfl; kernel_rfl; conv => whnf) | (refine call_eq (hla) hC hasBody_27 ?_ ?_ ?_; kernel_rfl; kernel_rfl; conv => whnf) | (refine callq_eq (hla) hC hasBody_27 ?_ ?_ ?_; kernel_rfl; kernel_rfl; conv => whnf) | (refine draw_lex hE ?_ ?_; decide +kernel; conv => whnf) | (refine brd (fun h => ?_) (fun h => ?_) <;> conv => whnf) | (refine br (fun h => ?_) (fun h => ?_) <;> conv => whnf) | (refine ret_now hE ?_; conv => whnf) | (intro hlen; conv => whnf) | (refine seg_here ?_; conv => whnf) | (refine both ?_ ?_ <;> conv => whnf))
                  all_goals exact ⟨rfl, by simp [V.nl, nlL, docV]⟩
                · conv => whnf
                  repeat' (first | (refine brd_t (by first | assumption | omega) ?_; conv => whnf) | (refine brd_f (by first | assumption | omega) ?_; conv => whnf) | (refine ask (by first | assumption | omega) ?_; conv => whnf) | (refine fit64 (by omega) ?_; conv => whnf) | (refine fit (by simp only [kmin, kmax]; omega) ?_; conv => whnf) | (refine br_t (by assumption) ?_; conv => whnf) | (refine br_f (by assumption) ?_; conv => whnf) | (refine get_of (by assumption) ?_; conv => whnf) | (refine get_map (by assumption) ?_; conv => whnf) | (refine call_eq (hla) hC hasBody_27 ?_ ?_ ?_; kernel_rfl; kernel_rfl; conv => whnf) | (refine callq_eq (hla) hC hasBody_27 ?_ ?_ ?_; kernel_rfl; kernel_rfl; conv => whnf) | (refine draw_lex hE ?_ ?_; decide +kernel; conv => whnf) | (refine brd (fun h => ?_) (fun h => ?_) <;> conv => whnf) | (refine br (fun h => ?_) (fun h => ?_) <;> conv => whnf) | (refine ret_now hE ?_; conv => whnf) | (intro hlen; conv => whnf) | (refine seg_here ?_; conv => whnf) | (refine both ?_ ?_ <;> conv => whnf))
                  all_goals exact ⟨rfl, by simp [V.nl, nlL, docV]⟩
            · rw [if_neg hbad] at hst
              have hfree : ok = true ∧ 0 ≤ i ∧ i ≤ (list.length : Int) ∧ (kd ≠ 1 → i < (list.length : Int)) := by
                refine ⟨?_, by omega, by omega, fun h => by omega⟩
                cases ok
                · exact absurd (.inl rfl) hbad
                · rfl
              obtain ⟨rfl, hi0, hil, hi1⟩ := hfree
              clear hbad
              have hk123 : kd = 1 ∨ kd = 2 ∨ kd = 3 := by omega
              rcases hk123 with rfl | rfl | rfl
              · have hg2 := fun j hj => gL_nx (m := k) (kd := 1) (i := i) (x := .mk n a t ps) hcx.1 hgl hi1 j hj
                conv => whnf
                repeat' (first | (refine brd_t (by first | assumption | omega) ?_; conv => whnf) | (refine brd_f (by first | assumption | omega) ?_; conv => whnf) | (refine ask (by first | assumption | omega) ?_; conv => whnf) | (refine fit64 (by omega) ?_; conv => whnf) | (refine fit (by simp only [kmin, kmax]; omega) ?_; conv => whnf) | (refine br_t (by assumption) ?_; conv => whnf) | (refine br_f (by assumption) ?_; conv => whnf) | (refine get_of (by assumption) ?_; conv => whnf) | (refine get_map (by assumption) ?_; conv => whnf) | (refine call_eq (hla) hC hasBody_27 ?_ ?_ ?_; kernel_rfl; kernel_rfl; conv => whnf) | (refine callq_eq (hla) hC hasBody_27 ?_ ?_ ?_; kernel_rfl; kernel_rfl; conv => whnf) | (refine draw_lex hE ?_ ?_; decide +kernel; conv => whnf) | (refine brd (fun h => ?_) (fun h => ?_) <;> conv => whnf) | (refine br (fun h => ?_) (fun h => ?_) <;> conv => whnf) | (refine ret_now hE ?_; conv => whnf) | (intro hlen; conv => whnf) | (refine seg_here ?_; conv => whnf) | (refine both ?_ ?_ <;> conv => whnf))
                refine loopE (fun j : Nat => ⟨146, [(6, .sl 0 0 (pre ++ [now]).length), (8, .ptr 1 0 0), (9, .lst (nodesL now)), (10, .lst (nodesL list)), (12, .int .i64 i), (13, .sl 2 0 (nxF 1 i (.mk n a t ps) list j).length), (14, .int .i64 j), (20, .lst (cs.map chA)), (21, .int .i64 (cs.map chA).length), (22, .int .i64 k)], [some (.row 1 (rowN (pre ++ [now]))), some (.row 6 [.agg [.int .i64 1, .lst (p.map (V.int .i64)), .str n, .lst (a.map attA), .str t, .lst (nodesL ps)]]), some (.row 4 (nodesL (nxF 1 i (.mk n a t ps) list j)))]⟩) (fun j => j ≤ list.length + 1) (fun j => list.length + 1 - j) 0 hE ?_ ?_ (Nat.zero_le _) ?_
                · kernel_rfl
                · exact up_own 13 4 rfl rfl (at_keep [6, 8, 9, 10, 12, 13, 14, 20, 21, 22] rfl)
                intro j hj
                have hnl := nodesL_length (nxF 1 i (.mk n a t ps) list j)
                obtain ⟨hg3, hg4⟩ := hg2 j hj
                have htk : List.take (nxF 1 i (.mk n a t ps) list j).length (List.drop 0 (nodesL (nxF 1 i (.mk n a t ps) list j))) = nodesL (nxF 1 i (.mk n a t ps) list j) := by rw [List.drop_zero]; exact List.take_of_length_le (by omega)
                by_cases hjl : j = list.length + 1
                · subst hjl
                  conv => whnf
                  repeat' (first | (refine brd_t (by first | assumption | omega) ?_; conv => whnf) | (refine brd_f (by first | assumption | omega) ?_; conv => whnf) | (refine ask (by first | assumption | omega) ?_; conv => whnf) | (refine fit64 (by omega) ?_; conv => whnf) | (refine fit (by simp only [kmin, kmax]; omega) ?_; conv => whnf) | (refine br_t (by assumption) ?_; conv => whnf) | (refine br_f (by assumption) ?_; conv => whnf) | (refine get_of (by assumption) ?_; conv => whnf) | (refine get_map (by assumption) ?_; conv => whnf) | (refine draw_lex hE ?_ ?_; decide +kernel; conv => whnf) | (refine brd (fun h => ?_) (fun h => ?_) <;> conv => whnf) | (refine br (fun h => ?_) (fun h => ?_) <;> conv => whnf) | (refine ret_now hE ?_; conv => whnf) | (intro hlen; conv => whnf) | (refine seg_here ?_; conv => whnf) | (refine both ?_ ?_ <;> conv => whnf))
                  refine call_up (up_frzK 2 140 [136, 137, 139, 20, 21, 22] (z := 4) (els := nodesL (nxF 1 i (.mk n a t ps) list (list.length + 1))) rfl (nodesL_nr _) rfl (nodesL_length _).symm rfl (up_drops [1] (up_trimE (up_same [some (.row 1 (rowN (pre ++ [now])))] ?_ (up_here ?_)))))
                  · conv => whnf
                    rw [frz_nrL _ _ (rowN_nr _), kill_nrL _ (rowN_nr _)]
                  conv => whnf
                  have hwq := hwl (nxF 1 i (.mk n a t ps) list (list.length + 1))
                  have hgq := hgw (nxF 1 i (.mk n a t ps) list (list.length + 1)) ⟨by omega, hg4⟩
                  generalize wlF now p (nxF 1 i (.mk n a t ps) list (list.length + 1)) = w at *
                  repeat' (first | (refine brd_t (by first | assumption | omega) ?_; conv => whnf) | (refine brd_f (by first | assumption | omega) ?_; conv => whnf) | (refine ask (by first | assumption | omega) ?_; conv => whnf) | (refine fit64 (by omega) ?_; conv => whnf) | (refine fit (by simp only [kmin, kmax]; omega) ?_; conv => whnf) | (refine br_t (by assumption) ?_; conv => whnf) | (refine br_f (by assumption) ?_; conv => whnf) | (refine get_of (by assumption) ?_; conv => whnf) | (refine get_map (by assumption) ?_; conv => whnf) | (refine call_eq (hwq) hC hasBody_28 ?_ ?_ ?_; kernel_rfl; kernel_rfl; conv => whnf) | (refine callq_eq (hwq) hC hasBody_28 ?_ ?_ ?_; kernel_rfl; kernel_rfl; conv => whnf) | (refine ask (Nat.le_refl 1) ?_; conv => whnf) | (refine ask ⟨?_, ?_, ?_⟩ ?_; omega; (show (pre ++ [now]).length + 1 ≤ 9223372036854775807; omega); (show ((pre ++ [now]).length + 1) * 24 ≤ 140737488355328; omega); conv => whnf) | (refine draw_lex hE ?_ ?_; decide +kernel; conv => whnf) | (refine brd (fun h => ?_) (fun h => ?_) <;> conv => whnf) | (refine br (fun h => ?_) (fun h => ?_) <;> conv => whnf) | (refine ret_now hE ?_; conv => whnf) | (intro hlen; conv => whnf) | (refine seg_here ?_; conv => whnf) | (refine both ?_ ?_ <;> conv => whnf))
                  refine next_drop [6, 20, 21, 22] [1] (k + 1, pre ++ [now], w) ⟨hlt, by simp [hpl], hgq, hI.trans hst⟩ (show cs.length - (k + 1) < cs.length - k by omega) ?_
                  conv => whnf
                  have f1 : (pre ++ [now]).length + (List.take 1 (List.drop 0 [V.lst (nodesL w)])).length = (pre ++ [now] ++ [w]).length := by rw [List.length_append (bs := [w])]; rfl
                  have f2 : List.take (pre ++ [now]).length (List.drop 0 (rowN (pre ++ [now]))) ++ List.take 1 (List.drop 0 [V.lst (nodesL w)]) = rowN (pre ++ [now] ++ [w]) := by rw [rowN_app (pre ++ [now]), List.drop_zero, List.take_of_length_le (by omega)]; rfl
                  rw [f1, f2, kill_nrL _ (rowN_nr _), kill_nrL _ (rowN_nr _)]
                  rfl
                by_cases hjn : j = list.length
                · have hy : list[j]? = none := List.getElem?_eq_none_iff.2 (by omega)
                  by_cases hji : (j : Int) = i
                  · conv => whnf
                    repeat' (first | (refine brd_t (by first | assumption | omega) ?_; conv => whnf) | (refine brd_f (by first | assumption | omega) ?_; conv => whnf) | (refine ask (by first | assumption | omega) ?_; conv => whnf) | (refine fit64 (by omega) ?_; conv => whnf) | (refine fit (by simp only [kmin, kmax]; omega) ?_; conv => whnf) | (refine br_t (by assumption) ?_; conv => whnf) | (refine br_f (by assumption) ?_; conv => whnf) | (refine get_of (by assumption) ?_; conv => whnf) | (refine get_map (by assumption) ?_; conv => whnf) | (refine draw_lex hE ?_ ?_; decide +kernel; conv => whnf) | (refine brd (fun h => ?_) (fun h => ?_) <;> conv => whnf) | (refine br (fun h => ?_) (fun h => ?_) <;> conv => whnf) | (refine ret_now hE ?_; conv => whnf) | (intro hlen; conv => whnf) | (refine seg_here ?_; conv => whnf) | (refine both ?_ ?_ <;> conv => whnf))
                    refine ask (Nat.le_refl 1) ?_
                    conv => whnf
                    refine ask ⟨?_, ?_, ?_⟩ ?_
                    · show 0 + (nxF 1 i (.mk n a t ps) list j).length ≤ _; omega
                    · show (nxF 1 i (.mk n a t ps) list j).length + 1 ≤ 9223372036854775807; omega
                    · show ((nxF 1 i (.mk n a t ps) list j).length + 1) * 80 ≤ 140737488355328; omega
                    conv => whnf
                    repeat' (first | (refine brd_t (by first | assumption | omega) ?_; conv => whnf) | (refine brd_f (by first | assumption | omega) ?_; conv => whnf) | (refine ask (by first | assumption | omega) ?_; conv => whnf) | (refine fit64 (by omega) ?_; conv => whnf) | (refine fit (by simp only [kmin, kmax]; omega) ?_; conv => whnf) | (refine br_t (by assumption) ?_; conv => whnf) | (refine br_f (by assumption) ?_; conv => whnf) | (refine get_of (by assumption) ?_; conv => whnf) | (refine get_map (by assumption) ?_; conv => whnf) | (refine draw_lex hE ?_ ?_; decide +kernel; conv => whnf) | (refine brd (fun h => ?_) (fun h => ?_) <;> conv => whnf) | (refine br (fun h => ?_) (fun h => ?_) <;> conv => whnf) | (refine ret_now hE ?_; conv => whnf) | (intro hlen; conv => whnf) | (refine seg_here ?_; conv => whnf) | (refine both ?_ ?_ <;> conv => whnf))
                    have hN : nxF 1 i (.mk n a t ps) list (j + 1) = nxF 1 i (.mk n a t ps) list j ++ [.mk n a t ps] := by rw [nxF]; simp [hji, hy]
                    have hft : nodesL (nxF 1 i (.mk n a t ps) list (j + 1)) = nodesL (nxF 1 i (.mk n a t ps) list j) ++ [V.agg [.str n, .lst (a.map attA), .str t, .lst (nodesL ps)]] := by rw [hN]; simp [nodesL_append, nodesL, nodeA_mk]
                    refine next_drop [6, 8, 9, 10, 12, 13, 14, 20, 21, 22] [3] (j + 1) (show j + 1 ≤ list.length + 1 by omega) (show list.length + 1 - (j + 1) < list.length + 1 - j by omega) ?_
                    conv => whnf
                    have hLn : (nxF 1 i (.mk n a t ps) list (j + 1)).length = (nxF 1 i (.mk n a t ps) list j).length + 1 := by rw [hN]; simp
                    have f1 : (nxF 1 i (.mk n a t ps) list j).length + (List.take 1 (List.drop 0 [V.agg [.str n, .lst (a.map attA), .str t, .lst (nodesL ps)]])).length = (nxF 1 i (.mk n a t ps) list (j + 1)).length := by rw [hLn]; rfl
                    have f2 : List.take (nxF 1 i (.mk n a t ps) list j).length (List.drop 0 (nodesL (nxF 1 i (.mk n a t ps) list j))) ++ List.take 1 (List.drop 0 [V.agg [.str n, .lst (a.map attA), .str t, .lst (nodesL ps)]]) = nodesL (nxF 1 i (.mk n a t ps) list (j + 1)) := by rw [htk, hft]; rfl
                    rw [f1, f2]
                    rw [kill_nodes, kill_nodes]
                    rw [kill_nrL _ (rowN_nr _), kill_nrL _ (rowN_nr _)]
                    rfl
                  · conv => whnf
                    repeat' (first | (refine brd_t (by first | assumption | omega) ?_; conv => whnf) | (refine brd_f (by first | assumption | omega) ?_; conv => whnf) | (refine ask (by first | assumption | omega) ?_; conv => whnf) | (refine fit64 (by omega) ?_; conv => whnf) | (refine fit (by simp only [kmin, kmax]; omega) ?_; conv => whnf) | (refine br_t (by assumption) ?_; conv => whnf) | (refine br_f (by assumption) ?_; conv => whnf) | (refine get_of (by assumption) ?_; conv => whnf) | (refine get_map (by assumption) ?_; conv => whnf) | (refine draw_lex hE ?_ ?_; decide +kernel; conv => whnf) | (refine brd (fun h => ?_) (fun h => ?_) <;> conv => whnf) | (refine br (fun h => ?_) (fun h => ?_) <;> conv => whnf) | (refine ret_now hE ?_; conv => whnf) | (intro hlen; conv => whnf) | (refine seg_here ?_; conv => whnf) | (refine both ?_ ?_ <;> conv => whnf))
                    have hN : nxF 1 i (.mk n a t ps) list (j + 1) = nxF 1 i (.mk n a t ps) list j := by rw [nxF]; simp [hji, hy]
                    have hft : nodesL (nxF 1 i (.mk n a t ps) list (j + 1)) = nodesL (nxF 1 i (.mk n a t ps) list j) := by rw [hN]
                    refine next_drop [6, 8, 9, 10, 12, 13, 14, 20, 21, 22] [] (j + 1) (show j + 1 ≤ list.length + 1 by omega) (show list.length + 1 - (j + 1) < list.length + 1 - j by omega) ?_
                    conv => whnf
                    have hLn : (nxF 1 i (.mk n a t ps) list (j + 1)).length = (nxF 1 i (.mk n a t ps) list j).length + 0 := by rw [hN]; simp
                    rw [hft, hLn]
                    rfl
                obtain ⟨yn, ya, yt, yq, hy, hy'⟩ := node_at (show j < list.length by omega)
                by_cases hji : (j : Int) = i
                · have f2a : List.take (nxF 1 i (.mk n a t ps) list j).length (List.drop 0 (nodesL (nxF 1 i (.mk n a t ps) list j))) ++ List.take 1 (List.drop 0 [V.agg [.str n, .lst (a.map attA), .str t, .lst (nodesL ps)]]) = nodesL (nxF 1 i (.mk n a t ps) list j ++ [.mk n a t ps]) := by rw [htk, nodesL_append]; simp [nodesL, nodeA_mk]
                  conv => whnf
                  repeat' (first | (refine brd_t (by first | assumption | omega) ?_; conv => whnf) | (refine brd_f (by first | assumption | omega) ?_; conv => whnf) | (refine ask (by first | assumption | omega) ?_; conv => whnf) | (refine fit64 (by omega) ?_; conv => whnf) | (refine fit (by simp only [kmin, kmax]; omega) ?_; conv => whnf) | (refine br_t (by assumption) ?_; conv => whnf) | (refine br_f (by assumption) ?_; conv => whnf) | (refine get_of (by assumption) ?_; conv => whnf) | (refine get_map (by assumption) ?_; conv => whnf) | (refine draw_lex hE ?_ ?_; decide +kernel; conv => whnf) | (refine brd (fun h => ?_) (fun h => ?_) <;> conv => whnf) | (refine br (fun h => ?_) (fun h => ?_) <;> conv => whnf) | (refine ret_now hE ?_; conv => whnf) | (intro hlen; conv => whnf) | (refine seg_here ?_; conv => whnf) | (refine both ?_ ?_ <;> conv => whnf))
                  refine ask (Nat.le_refl 1) ?_
                  conv => whnf
                  refine ask ⟨?_, ?_, ?_⟩ ?_
                  · show 0 + (nxF 1 i (.mk n a t ps) list j).length ≤ _; omega
                  · show (nxF 1 i (.mk n a t ps) list j).length + 1 ≤ 9223372036854775807; omega
                  · show ((nxF 1 i (.mk n a t ps) list j).length + 1) * 80 ≤ 140737488355328; omega
                  conv => whnf
                  repeat' (first | (refine brd_t (by first | assumption | omega) ?_; conv => whnf) | (refine brd_f (by first | assumption | omega) ?_; conv => whnf) | (refine ask (by first | assumption | omega) ?_; conv => whnf) | (refine fit64 (by omega) ?_; conv => whnf) | (refine fit (by simp only [kmin, kmax]; omega) ?_; conv => whnf) | (refine br_t (by assumption) ?_; conv => whnf) | (refine br_f (by assumption) ?_; conv => whnf) | (refine get_of (by assumption) ?_; conv => whnf) | (refine get_map (by assumption) ?_; conv => whnf) | (refine draw_lex hE ?_ ?_; decide +kernel; conv => whnf) | (refine brd (fun h => ?_) (fun h => ?_) <;> conv => whnf) | (refine br (fun h => ?_) (fun h => ?_) <;> conv => whnf) | (refine ret_now hE ?_; conv => whnf) | (intro hlen; conv => whnf) | (refine seg_here ?_; conv => whnf) | (refine both ?_ ?_ <;> conv => whnf))
                  refine ask (Nat.le_refl 1) ?_
                  conv => whnf
                  refine ask ⟨?_, ?_, ?_⟩ ?_
                  · rw [f2a, kill_nodes, nodesL_length, List.length_append]
                    show 0 + ((nxF 1 i (.mk n a t ps) list j).length + 1) ≤ (nxF 1 i (.mk n a t ps) list j).length + 1; omega
                  · show (nxF 1 i (.mk n a t ps) list j).length + 1 + 1 ≤ 9223372036854775807; omega
                  · show ((nxF 1 i (.mk n a t ps) list j).length + 1 + 1) * 80 ≤ 140737488355328; omega
                  conv => whnf
                  repeat' (first | (refine brd_t (by first | assumption | omega) ?_; conv => whnf) | (refine brd_f (by first | assumption | omega) ?_; conv => whnf) | (refine ask (by first | assumption | omega) ?_; conv => whnf) | (refine fit64 (by omega) ?_; conv => whnf) | (refine fit (by simp only [kmin, kmax]; omega) ?_; conv => whnf) | (refine br_t (by assumption) ?_; conv => whnf) | (refine br_f (by assumption) ?_; conv => whnf) | (refine get_of (by assumption) ?_; conv => whnf) | (refine get_map (by assumption) ?_; conv => whnf) | (refine draw_lex hE ?_ ?_; decide +kernel; conv => whnf) | (refine brd (fun h => ?_) (fun h => ?_) <;> conv => whnf) | (refine br (fun h => ?_) (fun h => ?_) <;> conv => whnf) | (refine ret_now hE ?_; conv => whnf) | (intro hlen; conv => whnf) | (refine seg_here ?_; conv => whnf) | (refine both ?_ ?_ <;> conv => whnf))
                  have hN : nxF 1 i (.mk n a t ps) list (j + 1) = nxF 1 i (.mk n a t ps) list j ++ [.mk n a t ps] ++ [.mk yn ya yt yq] := by rw [nxF]; simp [hji, hy]
                  have hft : nodesL (nxF 1 i (.mk n a t ps) list (j + 1)) = nodesL (nxF 1 i (.mk n a t ps) list j) ++ [V.agg [.str n, .lst (a.map attA), .str t, .lst (nodesL ps)]] ++ [V.agg [.str yn, .lst (ya.map attA), .str yt, .lst (nodesL yq)]] := by rw [hN]; simp [nodesL_append, nodesL, nodeA_mk]
                  refine next_drop [6, 8, 9, 10, 12, 13, 14, 20, 21, 22] [3, 4] (j + 1) (show j + 1 ≤ list.length + 1 by omega) (show list.length + 1 - (j + 1) < list.length + 1 - j by omega) ?_
                  conv => whnf
                  have hLn : (nxF 1 i (.mk n a t ps) list (j + 1)).length = (nxF 1 i (.mk n a t ps) list j).length + 2 := by rw [hN]; simp
                  have f1 : (nxF 1 i (.mk n a t ps) list j).length + (List.take 1 (List.drop 0 [V.agg [.str n, .lst (a.map attA), .str t, .lst (nodesL ps)]])).length + (List.take 1 (List.drop 0 [V.agg [.str yn, .lst (ya.map attA), .str yt, .lst (nodesL yq)]])).length = (nxF 1 i (.mk n a t ps) list (j + 1)).length := by rw [hLn]; rfl
                  have f3 : List.take ((nxF 1 i (.mk n a t ps) list j).length + (List.take 1 (List.drop 0 [V.agg [.str n, .lst (a.map attA), .str t, .lst (nodesL ps)]])).length) (List.drop 0 (nodesL (nxF 1 i (.mk n a t ps) list j ++ [.mk n a t ps]))) ++ List.take 1 (List.drop 0 [V.agg [.str yn, .lst (ya.map attA), .str yt, .lst (nodesL yq)]]) = nodesL (nxF 1 i (.mk n a t ps) list (j + 1)) := by rw [hft, List.take_of_length_le (by rw [List.drop_zero, nodesL_length, List.length_append]; exact Nat.le_refl _), List.drop_zero, nodesL_append]; simp [nodesL, nodeA_mk]
                  rw [f1, f2a, kill_nodes, f3]
                  rw [kill_nodes, kill_nodes, kill_nodes]
                  rw [kill_nrL _ (rowN_nr _), kill_nrL _ (rowN_nr _), kill_nrL _ (rowN_nr _), kill_nrL _ (rowN_nr _)]
                  rfl
                · conv => whnf
                  repeat' (first | (refine brd_t (by first | assumption | omega) ?_; conv => whnf) | (refine brd_f (by first | assumption | omega) ?_; conv => whnf) | (refine ask (by first | assumption | omega) ?_; conv => whnf) | (refine fit64 (by omega) ?_; conv => whnf) | (refine fit (by simp only [kmin, kmax]; omega) ?_; conv => whnf) | (refine br_t (by assumption) ?_; conv => whnf) | (refine br_f (by assumption) ?_; conv => whnf) | (refine get_of (by assumption) ?_; conv => whnf) | (refine get_map (by assumption) ?_; conv => whnf) | (refine draw_lex hE ?_ ?_; decide +kernel; conv => whnf) | (refine brd (fun h => ?_) (fun h => ?_) <;> conv => whnf) | (refine br (fun h => ?_) (fun h => ?_) <;> conv => whnf) | (refine ret_now hE ?_; conv => whnf) | (intro hlen; conv => whnf) | (refine seg_here ?_; conv => whnf) | (refine both ?_ ?_ <;> conv => whnf))
                  refine ask (Nat.le_refl 1) ?_
                  conv => whnf
                  refine ask ⟨?_, ?_, ?_⟩ ?_
                  · show 0 + (nxF 1 i (.mk n a t ps) list j).length ≤ _; omega
                  · show (nxF 1 i (.mk n a t ps) list j).length + 1 ≤ 9223372036854775807; omega
                  · show ((nxF 1 i (.mk n a t ps) list j).length + 1) * 80 ≤ 140737488355328; omega
                  conv => whnf
                  repeat' (first | (refine brd_t (by first | assumption | omega) ?_; conv => whnf) | (refine brd_f (by first | assumption | omega) ?_; conv => whnf) | (refine ask (by first | assumption | omega) ?_; conv => whnf) | (refine fit64 (by omega) ?_; conv => whnf) | (refine fit (by simp only [kmin, kmax]; omega) ?_; conv => whnf) | (refine br_t (by assumption) ?_; conv => whnf) | (refine br_f (by assumption) ?_; conv => whnf) | (refine get_of (by assumption) ?_; conv => whnf) | (refine get_map (by assumption) ?_; conv => whnf) | (refine draw_lex hE ?_ ?_; decide +kernel; conv => whnf) | (refine brd (fun h => ?_) (fun h => ?_) <;> conv => whnf) | (refine br (fun h => ?_) (fun h => ?_) <;> conv => whnf) | (refine ret_now hE ?_; conv => whnf) | (intro hlen; conv => whnf) | (refine seg_here ?_; conv => whnf) | (refine both ?_ ?_ <;> conv => whnf))
                  have hN : nxF 1 i (.mk n a t ps) list (j + 1) = nxF 1 i (.mk n a t ps) list j ++ [.mk yn ya yt yq] := by rw [nxF]; simp [hji, hy]
                  have hft : nodesL (nxF 1 i (.mk n a t ps) list (j + 1)) = nodesL (nxF 1 i (.mk n a t ps) list j) ++ [V.agg [.str yn, .lst (ya.map attA), .str yt, .lst (nodesL yq)]] := by rw [hN]; simp [nodesL_append, nodesL, nodeA_mk]
                  refine next_drop [6, 8, 9, 10, 12, 13, 14, 20, 21, 22] [3] (j + 1) (show j + 1 ≤ list.length + 1 by omega) (show list.length + 1 - (j + 1) < list.length + 1 - j by omega) ?_
                  conv => whnf
                  have hLn : (nxF 1 i (.mk n a t ps) list (j + 1)).length = (nxF 1 i (.mk n a t ps) list j).length + 1 := by rw [hN]; simp
                  have f1 : (nxF 1 i (.mk n a t ps) list j).length + (List.take 1 (List.drop 0 [V.agg [.str yn, .lst (ya.map attA), .str yt, .lst (nodesL yq)]])).length = (nxF 1 i (.mk n a t ps) list (j + 1)).length := by rw [hLn]; rfl
                  have f2 : List.take (nxF 1 i (.mk n a t ps) list j).length (List.drop 0 (nodesL (nxF 1 i (.mk n a t ps) list j))) ++ List.take 1 (List.drop 0 [V.agg [.str yn, .lst (ya.map attA), .str yt, .lst (nodesL yq)]]) = nodesL (nxF 1 i (.mk n a t ps) list (j + 1)) := by rw [htk, hft]; rfl
                  rw [f1, f2]
                  rw [kill_nodes, kill_nodes]
                  rw [kill_nrL _ (rowN_nr _), kill_nrL _ (rowN_nr _)]
                  rfl
              · rw [hemc rfl] at hem
                have hg2 := fun j hj => gL_nx (m := k) (kd := 2) (i := i) (x := .mk n a t ps) hcx.1 hgl hi1 j hj
                conv => whnf
                repeat' (first | (refine brd_t (by first | assumption | omega) ?_; conv => whnf) | (refine brd_f (by first | assumption | omega) ?_; conv => whnf) | (refine ask (by first | assumption | omega) ?_; conv => whnf) | (refine fit64 (by omega) ?_; conv => whnf) | (refine fit (by simp only [kmin, kmax]; omega) ?_; conv => whnf) | (refine br_t (by assumption) ?_; conv => whnf) | (refine br_f (by assumption) ?_; conv => whnf) | (refine get_of (by assumption) ?_; conv => whnf) | (refine get_map (by assumption) ?_; conv => whnf) | (refine call_eq (hem) hC hasBody_26 ?_ ?_ ?_; kernel_rfl; kernel_rfl; conv => whnf) | (refine callq_eq (hem) hC hasBody_26 ?_ ?_ ?_; kernel_rfl; kernel_rfl; conv => whnf) | (refine call_eq (hla) hC hasBody_27 ?_ ?_ ?_; kernel_rfl; kernel_rfl; conv => whnf) | (refine callq_eq (hla) hC hasBody_27 ?_ ?_ ?_; kernel_rfl; kernel_rfl; conv => whnf) | (refine draw_lex hE ?_ ?_; decide +kernel; conv => whnf) | (refine brd (fun h => ?_) (fun h => ?_) <;> conv => whnf) | (refine br (fun h => ?_) (fun h => ?_) <;> conv => whnf) | (refine ret_now hE ?_; conv => whnf) | (intro hlen; conv => whnf) | (refine seg_here ?_; conv => whnf) | (refine both ?_ ?_ <;> conv => whnf))
                refine loopE (fun j : Nat => ⟨146, [(6, .sl 0 0 (pre ++ [now]).length), (8, .ptr 1 0 0), (9, .lst (nodesL now)), (10, .lst (nodesL list)), (12, .int .i64 i), (13, .sl 2 0 (nxF 2 i (.mk n a t ps) list j).length), (14, .int .i64 j), (20, .lst (cs.map chA)), (21, .int .i64 (cs.map chA).length), (22, .int .i64 k)], [some (.row 1 (rowN (pre ++ [now]))), some (.row 6 [.agg [.int .i64 2, .lst (p.map (V.int .i64)), .str n, .lst (a.map attA), .str t, .lst (nodesL ps)]]), some (.row 4 (nodesL (nxF 2 i (.mk n a t ps) list j)))]⟩) (fun j => j ≤ list.length + 1) (fun j => list.length + 1 - j) 0 hE ?_ ?_ (Nat.zero_le _) ?_
                · kernel_rfl
                · exact up_own 13 4 rfl rfl (at_keep [6, 8, 9, 10, 12, 13, 14, 20, 21, 22] rfl)
                intro j hj
                have hnl := nodesL_length (nxF 2 i (.mk n a t ps) list j)
                obtain ⟨hg3, hg4⟩ := hg2 j hj
                have htk : List.take (nxF 2 i (.mk n a t ps) list j).length (List.drop 0 (nodesL (nxF 2 i (.mk n a t ps) list j))) = nodesL (nxF 2 i (.mk n a t ps) list j) := by rw [List.drop_zero]; exact List.take_of_length_le (by omega)
                by_cases hjl : j = list.length + 1
                · subst hjl
                  conv => whnf
                  repeat' (first | (refine brd_t (by first | assumption | omega) ?_; conv => whnf) | (refine brd_f (by first | assumption | omega) ?_; conv => whnf) | (refine ask (by first | assumption | omega) ?_; conv => whnf) | (refine fit64 (by omega) ?_; conv => whnf) | (refine fit (by simp only [kmin, kmax]; omega) ?_; conv => whnf) | (refine br_t (by assumption) ?_; conv => whnf) | (refine br_f (by assumption) ?_; conv => whnf) | (refine get_of (by assumption) ?_; conv => whnf) | (refine get_map (by assumption) ?_; conv => whnf) | (refine draw_lex hE ?_ ?_; decide +kernel; conv => whnf) | (refine brd (fun h => ?_) (fun h => ?_) <;> conv => whnf) | (refine br (fun h => ?_) (fun h => ?_) <;> conv => whnf) | (refine ret_now hE ?_; conv => whnf) | (intro hlen; conv => whnf) | (refine seg_here ?_; conv => whnf) | (refine both ?_ ?_ <;> conv => whnf))
                  refine call_up (up_frzK 2 140 [136, 137, 139, 20, 21, 22] (z := 4) (els := nodesL (nxF 2 i (.mk n a t ps) list (list.length + 1))) rfl (nodesL_nr _) rfl (nodesL_length _).symm rfl (up_drops [1] (up_trimE (up_same [some (.row 1 (rowN (pre ++ [now])))] ?_ (up_here ?_)))))
                  · conv => whnf
                    rw [frz_nrL _ _ (rowN_nr _), kill_nrL _ (rowN_nr _)]
                  conv => whnf
                  have hwq := hwl (nxF 2 i (.mk n a t ps) list (list.length + 1))
                  have hgq := hgw (nxF 2 i (.mk n a t ps) list (list.length + 1)) ⟨by omega, hg4⟩
                  generalize wlF now p (nxF 2 i (.mk n a t ps) list (list.length + 1)) = w at *
                  repeat' (first | (refine brd_t (by first | assumption | omega) ?_; conv => whnf) | (refine brd_f (by first | assumption | omega) ?_; conv => whnf) | (refine ask (by first | assumption | omega) ?_; conv => whnf) | (refine fit64 (by omega) ?_; conv => whnf) | (refine fit (by simp only [kmin, kmax]; omega) ?_; conv => whnf) | (refine br_t (by assumption) ?_; conv => whnf) | (refine br_f (by assumption) ?_; conv => whnf) | (refine get_of (by assumption) ?_; conv => whnf) | (refine get_map (by assumption) ?_; conv => whnf) | (refine call_eq (hwq) hC hasBody_28 ?_ ?_ ?_; kernel_rfl; kernel_rfl; conv => whnf) | (refine callq_eq (hwq) hC hasBody_28 ?_ ?_ ?_; kernel_rfl; kernel_rfl; conv => whnf) | (refine ask (Nat.le_refl 1) ?_; conv => whnf) | (refine ask ⟨?_, ?_, ?_⟩ ?_; omega; (show (pre ++ [now]).length + 1 ≤ 9223372036854775807; omega); (show ((pre ++ [now]).length + 1) * 24 ≤ 140737488355328; omega); conv => whnf) | (refine draw_lex hE ?_ ?_; decide +kernel; conv => whnf) | (refine brd (fun h => ?_) (fun h => ?_) <;> conv => whnf) | (refine br (fun h => ?_) (fun h => ?_) <;> conv => whnf) | (refine ret_now hE ?_; conv => whnf) | (intro hlen; conv => whnf) | (refine seg_here ?_; conv => whnf) | (refine both ?_ ?_ <;> conv => whnf))
                  refine next_drop [6, 20, 21, 22] [1] (k + 1, pre ++ [now], w) ⟨hlt, by simp [hpl], hgq, hI.trans hst⟩ (show cs.length - (k + 1) < cs.length - k by omega) ?_
                  conv => whnf
                  have f1 : (pre ++ [now]).length + (List.take 1 (List.drop 0 [V.lst (nodesL w)])).length = (pre ++ [now] ++ [w]).length := by rw [List.length_append (bs := [w])]; rfl
                  have f2 : List.take (pre ++ [now]).length (List.drop 0 (rowN (pre ++ [now]))) ++ List.take 1 (List.drop 0 [V.lst (nodesL w)]) = rowN (pre ++ [now] ++ [w]) := by rw [rowN_app (pre ++ [now]), List.drop_zero, List.take_of_length_le (by omega)]; rfl
                  rw [f1, f2, kill_nrL _ (rowN_nr _), kill_nrL _ (rowN_nr _)]
                  rfl
                by_cases hjn : j = list.length
                · have hy : list[j]? = none := List.getElem?_eq_none_iff.2 (by omega)
                  have hji : ¬ (j : Int) = i := by have := hi1 (by decide); omega
                  conv => whnf
                  repeat' (first | (refine brd_t (by first | assumption | omega) ?_; conv => whnf) | (refine brd_f (by first | assumption | omega) ?_; conv => whnf) | (refine ask (by first | assumption | omega) ?_; conv => whnf) | (refine fit64 (by omega) ?_; conv => whnf) | (refine fit (by simp only [kmin, kmax]; omega) ?_; conv => whnf) | (refine br_t (by assumption) ?_; conv => whnf) | (refine br_f (by assumption) ?_; conv => whnf) | (refine get_of (by assumption) ?_; conv => whnf) | (refine get_map (by assumption) ?_; conv => whnf) | (refine draw_lex hE ?_ ?_; decide +kernel; conv => whnf) | (refine brd (fun h => ?_) (fun h => ?_) <;> conv => whnf) | (refine br (fun h => ?_) (fun h => ?_) <;> conv => whnf) | (refine ret_now hE ?_; conv => whnf) | (intro hlen; conv => whnf) | (refine seg_here ?_; conv => whnf) | (refine both ?_ ?_ <;> conv => whnf))
                  have hN : nxF 2 i (.mk n a t ps) list (j + 1) = nxF 2 i (.mk n a t ps) list j := by rw [nxF]; simp [hji, hy]
                  have hft : nodesL (nxF 2 i (.mk n a t ps) list (j + 1)) = nodesL (nxF 2 i (.mk n a t ps) list j) := by rw [hN]
                  refine next_drop [6, 8, 9, 10, 12, 13, 14, 20, 21, 22] [] (j + 1) (show j + 1 ≤ list.length + 1 by omega) (show list.length + 1 - (j + 1) < list.length + 1 - j by omega) ?_
                  conv => whnf
                  have hLn : (nxF 2 i (.mk n a t ps) list (j + 1)).length = (nxF 2 i (.mk n a t ps) list j).length + 0 := by rw [hN]; simp
                  rw [hft, hLn]
                  rfl
                obtain ⟨yn, ya, yt, yq, hy, hy'⟩ := node_at (show j < list.length by omega)
                by_cases hji : (j : Int) = i
                · conv => whnf
                  repeat' (first | (refine brd_t (by first | assumption | omega) ?_; conv => whnf) | (refine brd_f (by first | assumption | omega) ?_; conv => whnf) | (refine ask (by first | assumption | omega) ?_; conv => whnf) | (refine fit64 (by omega) ?_; conv => whnf) | (refine fit (by simp only [kmin, kmax]; omega) ?_; conv => whnf) | (refine br_t (by assumption) ?_; conv => whnf) | (refine br_f (by assumption) ?_; conv => whnf) | (refine get_of (by assumption) ?_; conv => whnf) | (refine get_map (by assumption) ?_; conv => whnf) | (refine draw_lex hE ?_ ?_; decide +kernel; conv => whnf) | (refine brd (fun h => ?_) (fun h => ?_) <;> conv => whnf) | (refine br (fun h => ?_) (fun h => ?_) <;> conv => whnf) | (refine ret_now hE ?_; conv => whnf) | (intro hlen; conv => whnf) | (refine seg_here ?_; conv => whnf) | (refine both ?_ ?_ <;> conv => whnf))
                  have hN : nxF 2 i (.mk n a t ps) list (j + 1) = nxF 2 i (.mk n a t ps) list j := by rw [nxF]; simp [hji, hy]
                  have hft : nodesL (nxF 2 i (.mk n a t ps) list (j + 1)) = nodesL (nxF 2 i (.mk n a t ps) list j) := by rw [hN]
                  refine next_drop [6, 8, 9, 10, 12, 13, 14, 20, 21, 22] [] (j + 1) (show j + 1 ≤ list.length + 1 by omega) (show list.length + 1 - (j + 1) < list.length + 1 - j by omega) ?_
                  conv => whnf
                  have hLn : (nxF 2 i (.mk n a t ps) list (j + 1)).length = (nxF 2 i (.mk n a t ps) list j).length + 0 := by rw [hN]; simp
                  rw [hft, hLn]
                  rfl
                · conv => whnf
                  repeat' (first | (refine brd_t (by first | assumption | omega) ?_; conv => whnf) | (refine brd_f (by first | assumption | omega) ?_; conv => whnf) | (refine ask (by first | assumption | omega) ?_; conv => whnf) | (refine fit64 (by omega) ?_; conv => whnf) | (refine fit (by simp only [kmin, kmax]; omega) ?_; conv => whnf) | (refine br_t (by assumption) ?_; conv => whnf) | (refine br_f (by assumption) ?_; conv => whnf) | (refine get_of (by assumption) ?_; conv => whnf) | (refine get_map (by assumption) ?_; conv => whnf) | (refine draw_lex hE ?_ ?_; decide +kernel; conv => whnf) | (refine brd (fun h => ?_) (fun h => ?_) <;> conv => whnf) | (refine br (fun h => ?_) (fun h => ?_) <;> conv => whnf) | (refine ret_now hE ?_; conv => whnf) | (intro hlen; conv => whnf) | (refine seg_here ?_; conv => whnf) | (refine both ?_ ?_ <;> conv => whnf))
                  refine ask (Nat.le_refl 1) ?_
                  conv => whnf
                  refine ask ⟨?_, ?_, ?_⟩ ?_
                  · show 0 + (nxF 2 i (.mk n a t ps) list j).length ≤ _; omega
                  · show (nxF 2 i (.mk n a t ps) list j).length + 1 ≤ 9223372036854775807; omega
                  · show ((nxF 2 i (.mk n a t ps) list j).length + 1) * 80 ≤ 140737488355328; omega
                  conv => whnf
                  repeat' (first | (refine brd_t (by first | assumption | omega) ?_; conv => whnf) | (refine brd_f (by first | assumption | omega) ?_; conv => whnf) | (refine ask (by first | assumption | omega) ?_; conv => whnf) | (refine fit64 (by omega) ?_; conv => whnf) | (refine fit (by simp only [kmin, kmax]; omega) ?_; conv => whnf) | (refine br_t (by assumption) ?_; conv => whnf) | (refine br_f (by assumption) ?_; conv => whnf) | (refine get_of (by assumption) ?_; conv => whnf) | (refine get_map (by assumption) ?_; conv => whnf) | (refine draw_lex hE ?_ ?_; decide +kernel; conv => whnf) | (refine brd (fun h => ?_) (fun h => ?_) <;> conv => whnf) | (refine br (fun h => ?_) (fun h => ?_) <;> conv => whnf) | (refine ret_now hE ?_; conv => whnf) | (intro hlen; conv => whnf) | (refine seg_here ?_; conv => whnf) | (refine both ?_ ?_ <;> conv => whnf))
                  have hN : nxF 2 i (.mk n a t ps) list (j + 1) = nxF 2 i (.mk n a t ps) list j ++ [.mk yn ya yt yq] := by rw [nxF]; simp [hji, hy]
                  have hft : nodesL (nxF 2 i (.mk n a t ps) list (j + 1)) = nodesL (nxF 2 i (.mk n a t ps) list j) ++ [V.agg [.str yn, .lst (ya.map attA), .str yt, .lst (nodesL yq)]] := by rw [hN]; simp [nodesL_append, nodesL, nodeA_mk]
                  refine next_drop [6, 8, 9, 10, 12, 13, 14, 20, 21, 22] [3] (j + 1) (show j + 1 ≤ list.length + 1 by omega) (show list.length + 1 - (j + 1) < list.length + 1 - j by omega) ?_
                  conv => whnf
                  have hLn : (nxF 2 i (.mk n a t ps) list (j + 1)).length = (nxF 2 i (.mk n a t ps) list j).length + 1 := by rw [hN]; simp
                  have f1 : (nxF 2 i (.mk n a t ps) list j).length + (List.take 1 (List.drop 0 [V.agg [.str yn, .lst (ya.map attA), .str yt, .lst (nodesL yq)]])).length = (nxF 2 i (.mk n a t ps) list (j + 1)).length := by rw [hLn]; rfl
                  have f2 : List.take (nxF 2 i (.mk n a t ps) list j).length (List.drop 0 (nodesL (nxF 2 i (.mk n a t ps) list j))) ++ List.take 1 (List.drop 0 [V.agg [.str yn, .lst (ya.map attA), .str yt, .lst (nodesL yq)]]) = nodesL (nxF 2 i (.mk n a t ps) list (j + 1)) := by rw [htk, hft]; rfl
                  rw [f1, f2]
                  rw [kill_nodes, kill_nodes]
                  rw [kill_nrL _ (rowN_nr _), kill_nrL _ (rowN_nr _)]
                  rfl
              · have hg2 := fun j hj => gL_nx (m := k) (kd := 3) (i := i) (x := .mk n a t ps) hcx.1 hgl hi1 j hj
                conv => whnf
                repeat' (first | (refine brd_t (by first | assumption | omega) ?_; conv => whnf) | (refine brd_f (by first | assumption | omega) ?_; conv => whnf) | (refine ask (by first | assumption | omega) ?_; conv => whnf) | (refine fit64 (by omega) ?_; conv => whnf) | (refine fit (by simp only [kmin, kmax]; omega) ?_; conv => whnf) | (refine br_t (by assumption) ?_; conv => whnf) | (refine br_f (by assumption) ?_; conv => whnf) | (refine get_of (by assumption) ?_; conv => whnf) | (refine get_map (by assumption) ?_; conv => whnf) | (refine call_eq (hla) hC hasBody_27 ?_ ?_ ?_; kernel_rfl; kernel_rfl; conv => whnf) | (refine callq_eq (hla) hC hasBody_27 ?_ ?_ ?_; kernel_rfl; kernel_rfl; conv => whnf) | (refine draw_lex hE ?_ ?_; decide +kernel; conv => whnf) | (refine brd (fun h => ?_) (fun h => ?_) <;> conv => whnf) | (refine br (fun h => ?_) (fun h => ?_) <;> conv => whnf) | (refine ret_now hE ?_; conv => whnf) | (intro hlen; conv => whnf) | (refine seg_here ?_; conv => whnf) | (refine both ?_ ?_ <;> conv => whnf))
                refine loopE (fun j : Nat => ⟨146, [(6, .sl 0 0 (pre ++ [now]).length), (8, .ptr 1 0 0), (9, .lst (nodesL now)), (10, .lst (nodesL list)), (12, .int .i64 i), (13, .sl 2 0 (nxF 3 i (.mk n a t ps) list j).length), (14, .int .i64 j), (20, .lst (cs.map chA)), (21, .int .i64 (cs.map chA).length), (22, .int .i64 k)], [some (.row 1 (rowN (pre ++ [now]))), some (.row 6 [.agg [.int .i64 3, .lst (p.map (V.int .i64)), .str n, .lst (a.map attA), .str t, .lst (nodesL ps)]]), some (.row 4 (nodesL (nxF 3 i (.mk n a t ps) list j)))]⟩) (fun j => j ≤ list.length + 1) (fun j => list.length + 1 - j) 0 hE ?_ ?_ (Nat.zero_le _) ?_
                · kernel_rfl
                · exact up_own 13 4 rfl rfl (at_keep [6, 8, 9, 10, 12, 13, 14, 20, 21, 22] rfl)
                intro j hj
                have hnl := nodesL_length (nxF 3 i (.mk n a t ps) list j)
                obtain ⟨hg3, hg4⟩ := hg2 j hj
                have htk : List.take (nxF 3 i (.mk n a t ps) list j).length (List.drop 0 (nodesL (nxF 3 i (.mk n a t ps) list j))) = nodesL (nxF 3 i (.mk n a t ps) list j) := by rw [List.drop_zero]; exact List.take_of_length_le (by omega)
                by_cases hjl : j = list.length + 1
                · subst hjl
                  conv => whnf
                  repeat' (first | (refine brd_t (by first | assumption | omega) ?_; conv => whnf) | (refine brd_f (by first | assumption | omega) ?_; conv => whnf) | (refine ask (by first | assumption | omega) ?_; conv => whnf) | (refine fit64 (by omega) ?_; conv => whnf) | (refine fit (by simp only [kmin, kmax]; omega) ?_; conv => whnf) | (refine br_t (by assumption) ?_; conv => whnf) | (refine br_f (by assumption) ?_; conv => whnf) | (refine get_of (by assumption) ?_; conv => whnf) | (refine get_map (by assumption) ?_; conv => whnf) | (refine draw_lex hE ?_ ?_; decide +kernel; conv => whnf) | (refine brd (fun h => ?_) (fun h => ?_) <;> conv => whnf) | (refine br (fun h => ?_) (fun h => ?_) <;> conv => whnf) | (refine ret_now hE ?_; conv => whnf) | (intro hlen; conv => whnf) | (refine seg_here ?_; conv => whnf) | (refine both ?_ ?_ <;> conv => whnf))
                  refine call_up (up_frzK 2 140 [136, 137, 139, 20, 21, 22] (z := 4) (els := nodesL (nxF 3 i (.mk n a t ps) list (list.length + 1))) rfl (nodesL_nr _) rfl (nodesL_length _).symm rfl (up_drops [1] (up_trimE (up_same [some (.row 1 (rowN (pre ++ [now])))] ?_ (up_here ?_)))))
                  · conv => whnf
                    rw [frz_nrL _ _ (rowN_nr _), kill_nrL _ (rowN_nr _)]
                  conv => whnf
                  have hwq := hwl (nxF 3 i (.mk n a t ps) list (list.length + 1))
                  have hgq := hgw (nxF 3 i (.mk n a t ps) list (list.length + 1)) ⟨by omega, hg4⟩
                  generalize wlF now p (nxF 3 i (.mk n a t ps) list (list.length + 1)) = w at *
                  repeat' (first | (refine brd_t (by first | assumption | omega) ?_; conv => whnf) | (refine brd_f (by first | assumption | omega) ?_; conv => whnf) | (refine ask (by first | assumption | omega) ?_; conv => whnf) | (refine fit64 (by omega) ?_; conv => whnf) | (refine fit (by simp only [kmin, kmax]; omega) ?_; conv => whnf) | (refine br_t (by assumption) ?_; conv => whnf) | (refine br_f (by assumption) ?_; conv => whnf) | (refine get_of (by assumption) ?_; conv => whnf) | (refine get_map (by assumption) ?_; conv => whnf) | (refine call_eq (hwq) hC hasBody_28 ?_ ?_ ?_; kernel_rfl; kernel_rfl; conv => whnf) | (refine callq_eq (hwq) hC hasBody_28 ?_ ?_ ?_; kernel_rfl; kernel_rfl; conv => whnf) | (refine ask (Nat.le_refl 1) ?_; conv => whnf) | (refine ask ⟨?_, ?_, ?_⟩ ?_; omega; (show (pre ++ [now]).length + 1 ≤ 9223372036854775807; omega); (show ((pre ++ [now]).length + 1) * 24 ≤ 140737488355328; omega); conv => whnf) | (refine draw_lex hE ?_ ?_; decide +kernel; conv => whnf) | (refine brd (fun h => ?_) (fun h => ?_) <;> conv => whnf) | (refine br (fun h => ?_) (fun h => ?_) <;> conv => whnf) | (refine ret_now hE ?_; conv => whnf) | (intro hlen; conv => whnf) | (refine seg_here ?_; conv => whnf) | (refine both ?_ ?_ <;> conv => whnf))
                  refine next_drop [6, 20, 21, 22] [1] (k + 1, pre ++ [now], w) ⟨hlt, by simp [hpl], hgq, hI.trans hst⟩ (show cs.length - (k + 1) < cs.length - k by omega) ?_
                  conv => whnf
                  have f1 : (pre ++ [now]).length + (List.take 1 (List.drop 0 [V.lst (nodesL w)])).length = (pre ++ [now] ++ [w]).length := by rw [List.length_append (bs := [w])]; rfl
                  have f2 : List.take (pre ++ [now]).length (List.drop 0 (rowN (pre ++ [now]))) ++ List.take 1 (List.drop 0 [V.lst (nodesL w)]) = rowN (pre ++ [now] ++ [w]) := by rw [rowN_app (pre ++ [now]), List.drop_zero, List.take_of_length_le (by omega)]; rfl
                  rw [f1, f2, kill_nrL _ (rowN_nr _), kill_nrL _ (rowN_nr _)]
                  rfl
                by_cases hjn : j = list.length
                · have hy : list[j]? = none := List.getElem?_eq_none_iff.2 (by omega)
                  have hji : ¬ (j : Int) = i := by have := hi1 (by decide); omega
                  conv => whnf
                  repeat' (first | (refine brd_t (by first | assumption | omega) ?_; conv => whnf) | (refine brd_f (by first | assumption | omega) ?_; conv => whnf) | (refine ask (by first | assumption | omega) ?_; conv => whnf) | (refine fit64 (by omega) ?_; conv => whnf) | (refine fit (by simp only [kmin, kmax]; omega) ?_; conv => whnf) | (refine br_t (by assumption) ?_; conv => whnf) | (refine br_f (by assumption) ?_; conv => whnf) | (refine get_of (by assumption) ?_; conv => whnf) | (refine get_map (by assumption) ?_; conv => whnf) | (refine draw_lex hE ?_ ?_; decide +kernel; conv => whnf) | (refine brd (fun h => ?_) (fun h => ?_) <;> conv => whnf) | (refine br (fun h => ?_) (fun h => ?_) <;> conv => whnf) | (refine ret_now hE ?_; conv => whnf) | (intro hlen; conv => whnf) | (refine seg_here ?_; conv => whnf) | (refine both ?_ ?_ <;> conv => whnf))
                  have hN : nxF 3 i (.mk n a t ps) list (j + 1) = nxF 3 i (.mk n a t ps) list j := by rw [nxF]; simp [hji, hy]
                  have hft : nodesL (nxF 3 i (.mk n a t ps) list (j + 1)) = nodesL (nxF 3 i (.mk n a t ps) list j) := by rw [hN]
                  refine next_drop [6, 8, 9, 10, 12, 13, 14, 20, 21, 22] [] (j + 1) (show j + 1 ≤ list.length + 1 by omega) (show list.length + 1 - (j + 1) < list.length + 1 - j by omega) ?_
                  conv => whnf
                  have hLn : (nxF 3 i (.mk n a t ps) list (j + 1)).length = (nxF 3 i (.mk n a t ps) list j).length + 0 := by rw [hN]; simp
                  rw [hft, hLn]
                  rfl
                obtain ⟨yn, ya, yt, yq, hy, hy'⟩ := node_at (show j < list.length by omega)
                by_cases hji : (j : Int) = i
                · conv => whnf
                  repeat' (first | (refine brd_t (by first | assumption | omega) ?_; conv => whnf) | (refine brd_f (by first | assumption | omega) ?_; conv => whnf) | (refine ask (by first | assumption | omega) ?_; conv => whnf) | (refine fit64 (by omega) ?_; conv => whnf) | (refine fit (by simp only [kmin, kmax]; omega) ?_; conv => whnf) | (refine br_t (by assumption) ?_; conv => whnf) | (refine br_f (by assumption) ?_; conv => whnf) | (refine get_of (by assumption) ?_; conv => whnf) | (refine get_map (by assumption) ?_; conv => whnf) | (refine draw_lex hE ?_ ?_; decide +kernel; conv => whnf) | (refine brd (fun h => ?_) (fun h => ?_) <;> conv => whnf) | (refine br (fun h => ?_) (fun h => ?_) <;> conv => whnf) | (refine ret_now hE ?_; conv => whnf) | (intro hlen; conv => whnf) | (refine seg_here ?_; conv => whnf) | (refine both ?_ ?_ <;> conv => whnf))
                  refine ask (Nat.le_refl 1) ?_
                  conv => whnf
                  refine ask ⟨?_, ?_, ?_⟩ ?_
                  · show 0 + (nxF 3 i (.mk n a t ps) list j).length ≤ _; omega
                  · show (nxF 3 i (.mk n a t ps) list j).length + 1 ≤ 9223372036854775807; omega
                  · show ((nxF 3 i (.mk n a t ps) list j).length + 1) * 80 ≤ 140737488355328; omega
                  conv => whnf
                  repeat' (first | (refine brd_t (by first | assumption | omega) ?_; conv => whnf) | (refine brd_f (by first | assumption | omega) ?_; conv => whnf) | (refine ask (by first | assumption | omega) ?_; conv => whnf) | (refine fit64 (by omega) ?_; conv => whnf) | (refine fit (by simp only [kmin, kmax]; omega) ?_; conv => whnf) | (refine br_t (by assumption) ?_; conv => whnf) | (refine br_f (by assumption) ?_; conv => whnf) | (refine get_of (by assumption) ?_; conv => whnf) | (refine get_map (by assumption) ?_; conv => whnf) | (refine draw_lex hE ?_ ?_; decide +kernel; conv => whnf) | (refine brd (fun h => ?_) (fun h => ?_) <;> conv => whnf) | (refine br (fun h => ?_) (fun h => ?_) <;> conv => whnf) | (refine ret_now hE ?_; conv => whnf) | (intro hlen; conv => whnf) | (refine seg_here ?_; conv => whnf) | (refine both ?_ ?_ <;> conv => whnf))
                  have hN : nxF 3 i (.mk n a t ps) list (j + 1) = nxF 3 i (.mk n a t ps) list j ++ [.mk n a t ps] := by rw [nxF]; simp [hji, hy]
                  have hft : nodesL (nxF 3 i (.mk n a t ps) list (j + 1)) = nodesL (nxF 3 i (.mk n a t ps) list j) ++ [V.agg [.str n, .lst (a.map attA), .str t, .lst (nodesL ps)]] := by rw [hN]; simp [nodesL_append, nodesL, nodeA_mk]
                  refine next_drop [6, 8, 9, 10, 12, 13, 14, 20, 21, 22] [3] (j + 1) (show j + 1 ≤ list.length + 1 by omega) (show list.length + 1 - (j + 1) < list.length + 1 - j by omega) ?_
                  conv => whnf
                  have hLn : (nxF 3 i (.mk n a t ps) list (j + 1)).length = (nxF 3 i (.mk n a t ps) list j).length + 1 := by rw [hN]; simp
                  have f1 : (nxF 3 i (.mk n a t ps) list j).length + (List.take 1 (List.drop 0 [V.agg [.str n, .lst (a.map attA), .str t, .lst (nodesL ps)]])).length = (nxF 3 i (.mk n a t ps) list (j + 1)).length := by rw [hLn]; rfl
                  have f2 : List.take (nxF 3 i (.mk n a t ps) list j).length (List.drop 0 (nodesL (nxF 3 i (.mk n a t ps) list j))) ++ List.take 1 (List.drop 0 [V.agg [.str n, .lst (a.map attA), .str t, .lst (nodesL ps)]]) = nodesL (nxF 3 i (.mk n a t ps) list (j + 1)) := by rw [htk, hft]; rfl
                  rw [f1, f2]
                  rw [kill_nodes, kill_nodes]
                  rw [kill_nrL _ (rowN_nr _), kill_nrL _ (rowN_nr _)]
                  rfl
                · conv => whnf
                  repeat' (first | (refine brd_t (by first | assumption | omega) ?_; conv => whnf) | (refine brd_f (by first | assumption | omega) ?_; conv => whnf) | (refine ask (by first | assumption | omega) ?_; conv => whnf) | (refine fit64 (by omega) ?_; conv => whnf) | (refine fit (by simp only [kmin, kmax]; omega) ?_; conv => whnf) | (refine br_t (by assumption) ?_; conv => whnf) | (refine br_f (by assumption) ?_; conv => whnf) | (refine get_of (by assumption) ?_; conv => whnf) | (refine get_map (by assumption) ?_; conv => whnf) | (refine draw_lex hE ?_ ?_; decide +kernel; conv => whnf) | (refine brd (fun h => ?_) (fun h => ?_) <;> conv => whnf) | (refine br (fun h => ?_) (fun h => ?_) <;> conv => whnf) | (refine ret_now hE ?_; conv => whnf) | (intro hlen; conv => whnf) | (refine seg_here ?_; conv => whnf) | (refine both ?_ ?_ <;> conv => whnf))
                  refine ask (Nat.le_refl 1) ?_
                  conv => whnf
                  refine ask ⟨?_, ?_, ?_⟩ ?_
                  · show 0 + (nxF 3 i (.mk n a t ps) list j).length ≤ _; omega
                  · show (nxF 3 i (.mk n a t ps) list j).length + 1 ≤ 9223372036854775807; omega
                  · show ((nxF 3 i (.mk n a t ps) list j).length + 1) * 80 ≤ 140737488355328; omega
                  conv => whnf
                  repeat' (first | (refine brd_t (by first | assumption | omega) ?_; conv => whnf) | (refine brd_f (by first | assumption | omega) ?_; conv => whnf) | (refine ask (by first | assumption | omega) ?_; conv => whnf) | (refine fit64 (by omega) ?_; conv => whnf) | (refine fit (by simp only [kmin, kmax]; omega) ?_; conv => whnf) | (refine br_t (by assumption) ?_; conv => whnf) | (refine br_f (by assumption) ?_; conv => whnf) | (refine get_of (by assumption) ?_; conv => whnf) | (refine get_map (by assumption) ?_; conv => whnf) | (refine draw_lex hE ?_ ?_; decide +kernel; conv => whnf) | (refine brd (fun h => ?_) (fun h => ?_) <;> conv => whnf) | (refine br (fun h => ?_) (fun h => ?_) <;> conv => whnf) | (refine ret_now hE ?_; conv => whnf) | (intro hlen; conv => whnf) | (refine seg_here ?_; conv => whnf) | (refine both ?_ ?_ <;> conv => whnf))
                  have hN : nxF 3 i (.mk n a t ps) list (j + 1) = nxF 3 i (.mk n a t ps) list j ++ [.mk yn ya yt yq] := by rw [nxF]; simp [hji, hy]
                  have hft : nodesL (nxF 3 i (.mk n a t ps) list (j + 1)) = nodesL (nxF 3 i (.mk n a t ps) list j) ++ [V.agg [.str yn, .lst (ya.map attA), .str yt, .lst (nodesL yq)]] := by rw [hN]; simp [nodesL_append, nodesL, nodeA_mk]
                  refine next_drop [6, 8, 9, 10, 12, 13, 14, 20, 21, 22] [3] (j + 1) (show j + 1 ≤ list.length + 1 by omega) (show list.length + 1 - (j + 1) < list.length + 1 - j by omega) ?_
                  conv => whnf
                  have hLn : (nxF 3 i (.mk n a t ps) list (j + 1)).length = (nxF 3 i (.mk n a t ps) list j).length + 1 := by rw [hN]; simp
                  have f1 : (nxF 3 i (.mk n a t ps) list j).length + (List.take 1 (List.drop 0 [V.agg [.str yn, .lst (ya.map attA), .str yt, .lst (nodesL yq)]])).length = (nxF 3 i (.mk n a t ps) list (j + 1)).length := by rw [hLn]; rfl
                  have f2 : List.take (nxF 3 i (.mk n a t ps) list j).length (List.drop 0 (nodesL (nxF 3 i (.mk n a t ps) list j))) ++ List.take 1 (List.drop 0 [V.agg [.str yn, .lst (ya.map attA), .str yt, .lst (nodesL yq)]]) = nodesL (nxF 3 i (.mk n a t ps) list (j + 1)) := by rw [htk, hft]; rfl
                  rw [f1, f2]
                  rw [kill_nodes, kill_nodes]
                  rw [kill_nrL _ (rowN_nr _), kill_nrL _ (rowN_nr _)]
                  rfl
    · have hkl : k = cs.length := by omega
      rw [hkl, List.drop_length, docA] at hI
      rw [hI]
      conv => whnf
      repeat' (first | (refine brd_t (by first | assumption | omega) ?_; conv => whnf) | (refine brd_f (by first | assumption | omega) ?_; conv => whnf) | (refine ask (by first | assumption | omega) ?_; conv => whnf) | (refine fit64 (by omega) ?_; conv => whnf) | (refine fit (by simp only [kmin, kmax]; omega) ?_; conv => whnf) | (refine br_t (by assumption) ?_; conv => whnf) | (refine br_f (by assumption) ?_; conv => whnf) | (refine get_of (by assumption) ?_; conv => whnf) | (refine get_map (by assumption) ?_; conv => whnf) | (refine ret_up (up_frzK 0 4 [5] rfl ?_ rfl ?_ rfl (up_here ?_)); (exact rowN_nr _); (exact hrl.symm)) | (refine draw_lex hE ?_ ?_; decide +kernel; conv => whnf) | (refine brd (fun h => ?_) (fun h => ?_) <;> conv => whnf) | (refine br (fun h => ?_) (fun h => ?_) <;> conv => whnf) | (refine ret_now hE ?_; conv => whnf) | (intro hlen; conv => whnf) | (refine seg_here ?_; conv => whnf) | (refine both ?_ ?_ <;> conv => whnf))
      all_goals exact ⟨rfl, by simp [V.nl, nlL, docV, nl_rowN]⟩
end Go.Proofs.Ytkkcmobnhiiacaa
