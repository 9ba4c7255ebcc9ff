/- walk.play, walk.Play, walked. No conditions. -/
import Derived.Test.YtkkcmobnhiiacaaPlayB
set_option linter.unusedSimpArgs false
set_option linter.unusedVariables false
set_option maxRecDepth 100000
namespace Go.Proofs.Ytkkcmobnhiiacaa
open Go.RowKit

/-! ### Rows that have grown by m nodes at most -/
mutual
def gN (m : Nat) : Nd → Prop
  | .mk _ a _ ps => a.length * 32 ≤ 140737488351232 ∧ ps.length * 80 ≤ 140737488351232 + 80 * m ∧ gA m ps
def gA (m : Nat) : List Nd → Prop
  | [] => True
  | x :: xs => gN m x ∧ gA m xs
end
def gL (m : Nat) (l : List Nd) : Prop := l.length * 80 ≤ 140737488351232 + 80 * m ∧ gA m l
theorem gA_iff {m : Nat} : ∀ {l : List Nd}, gA m l ↔ ∀ x ∈ l, gN m x
  | [] => by simp [gA]
  | y :: l => by rw [gA, gA_iff (l := l)]; simp
theorem gN_mk {m : Nat} {n : List UInt8} {a : List Atr} {t : List UInt8} {ps : List Nd} : gN m (.mk n a t ps) ↔ a.length * 32 ≤ 140737488351232 ∧ gL m ps := by rw [gN]; exact Iff.rfl
mutual
theorem gN_up {m k : Nat} (h : m ≤ k) : ∀ x, gN m x → gN k x
  | .mk n a t ps, hx => by
    rw [gN] at hx ⊢
    exact ⟨hx.1, by omega, gA_up h ps hx.2.2⟩
theorem gA_up {m k : Nat} (h : m ≤ k) : ∀ l, gA m l → gA k l
  | [], _ => by simp [gA]
  | x :: l, hl => by
    rw [gA] at hl ⊢
    exact ⟨gN_up h x hl.1, gA_up h l hl.2⟩
end
mutual
theorem gN_fit {m : Nat} (h : m ≤ 44) : ∀ x, gN m x → fitN x
  | .mk n a t ps, hx => by
    rw [gN] at hx
    rw [fitN]
    exact ⟨hx.1, by omega, gA_fit h ps hx.2.2⟩
theorem gA_fit {m : Nat} (h : m ≤ 44) : ∀ l, gA m l → fitA l
  | [], _ => by simp [fitA]
  | x :: l, hl => by
    rw [gA] at hl
    rw [fitA]
    exact ⟨gN_fit h x hl.1, gA_fit h l hl.2⟩
end
theorem gL_fit {m : Nat} (h : m ≤ 44) {l : List Nd} (hl : gL m l) : fitL l := ⟨by have := hl.1; omega, gA_fit h l hl.2⟩
theorem gL_nil (m : Nat) : gL m [] := ⟨by simp, by simp [gA]⟩
theorem gL_set {m : Nat} {l : List Nd} {i : Nat} {x : Nd} (hl : gL m l) (hx : gN (m + 1) x) : gL (m + 1) (l.set i x) := by
  refine ⟨by have := hl.1; rw [List.length_set]; omega, gA_iff.2 fun y hy => ?_⟩
  rcases List.mem_or_eq_of_mem_set hy with h | rfl
  · exact gN_up (by omega) y (gA_iff.1 hl.2 y h)
  · exact hx
theorem chg_grow (c : Ch) (hc : gN 0 c.node) (path : List Int) : ∀ (m : Nat) (l : List Nd), gL m l → gL (m + 1) (chgT c l path).1 := by
  induction path with
  | nil => intro m l _; rw [chgT]; exact gL_nil _
  | cons p ps ih =>
    intro m l hl
    have hc1 := gN_up (Nat.zero_le (m + 1)) _ hc
    rw [chgT]
    generalize (if c.kind = 1 ∧ ps = [] then (1 : Int) else 0) = bb
    split
    · exact gL_nil _
    · split
      · split
        · refine ⟨?_, gA_iff.2 fun y hy => ?_⟩
          · have := hl.1
            have h2 : (l.take p.toNat ++ [c.node] ++ l.drop p.toNat).length ≤ l.length + 1 := by simp; omega
            have h3 := Nat.mul_le_mul_right 80 h2
            show (l.take p.toNat ++ [c.node] ++ l.drop p.toNat).length * 80 ≤ _
            omega
          · simp only [List.mem_append, List.mem_singleton] at hy
            rcases hy with (h | rfl) | h
            · exact gN_up (by omega) y (gA_iff.1 hl.2 y (List.mem_of_mem_take h))
            · exact hc1
            · exact gN_up (by omega) y (gA_iff.1 hl.2 y (List.mem_of_mem_drop h))
        · split
          · refine ⟨?_, gA_iff.2 fun y hy => ?_⟩
            · have := hl.1
              have h2 : (l.take p.toNat ++ l.drop (p.toNat + 1)).length ≤ l.length := by simp; omega
              have h3 := Nat.mul_le_mul_right 80 h2
              show (l.take p.toNat ++ l.drop (p.toNat + 1)).length * 80 ≤ _
              omega
            · simp only [List.mem_append] at hy
              rcases hy with h | h
              · exact gN_up (by omega) y (gA_iff.1 hl.2 y (List.mem_of_mem_take h))
              · exact gN_up (by omega) y (gA_iff.1 hl.2 y (List.mem_of_mem_drop h))
          · exact gL_set hl hc1
      · split
        · exact gL_nil _
        · rename_i n hn
          split
          · exact gL_nil _
          · have hx := gA_iff.1 hl.2 n (List.mem_of_getElem? hn)
            cases n with
            | mk nn na nt nq =>
              rw [gN_mk] at hx
              have := ih m nq hx.2
              simp only [Nd.name, Nd.attrs, Nd.text, Nd.parts] at this ⊢
              generalize chgT c nq ps = R at *
              obtain ⟨q, b, e⟩ := R
              exact gL_set hl (gN_mk.2 ⟨hx.1, this⟩)

/-! ### Playing changes -/
def emptyN (x : Nd) : Bool := x.name.isEmpty && x.text.isEmpty && x.attrs.isEmpty && x.parts.isEmpty
def playA : List Nd → List Ch → List Ch → Except Int (List Nd × List Ch)
  | l, bs, [] => .ok (l, bs)
  | l, bs, c :: cs => if c.kind < 1 ∨ 3 < c.kind then .error 3 else if c.kind = 2 ∧ emptyN c.node = false then .error 4 else
      if (chgT c l c.path).2.2 = 0 then playA (chgT c l c.path).1 (bs ++ [(chgT c l c.path).2.1]) cs else .error (chgT c l c.path).2.2
def playR (l : List Nd) (cs : List Ch) : Except Int (List Nd × List Ch) := if 40 < cs.length then .error 1 else playA l [] cs
def playV : Except Int (List Nd × List Ch) → V
  | .ok (x, bs) => .tup [.lst (nodesL x), .lst (bs.map chA), .int .i64 0]
  | .error e => .tup [.lst [], .lst [], .int .i64 e]
theorem walk_empty (x : Nd) (hx : fitN x) : Fn1 Try.prog 23 [nodeA x] (fun r => r = .bool (emptyN x)) := by
  obtain ⟨n, a, t, ps⟩ := x
  have hf := fitN_mk.1 hx
  have hal : (a.map attA).length = a.length := by simp
  have hpl := nodesL_length ps
  have hb := hf.2.1
  have e1 : emptyN (.mk n a t ps) = (decide (n = []) && decide (t = []) && decide (a.length = 0) && decide (ps.length = 0)) := by
    cases n <;> cases t <;> cases a <;> cases ps <;> rfl
  rw [nodeA_mk, e1]
  refine fn1E (T := Try.tt) Try.func23 rfl tt_all follows_all ?_ ?_ fun C hC hE => ?_
  · kernel_rfl
  · exact Nat.le_of_ble_eq_true (by kernel_rfl)
  conv => whnf
  repeat' (first | (refine brd_t (by first | assumption | omega) ?_; conv => whnf) | (refine brd_f (by first | assumption | omega) ?_; conv => whnf) | (refine ask (by first | assumption | omega) ?_; conv => whnf) | (refine fit64 (by omega) ?_; conv => whnf) | (refine fit (by simp only [kmin, kmax]; omega) ?_; conv => whnf) | (refine br_t (by assumption) ?_; conv => whnf) | (refine br_f (by assumption) ?_; conv => whnf) | (refine get_of (by assumption) ?_; conv => whnf) | (refine get_map (by assumption) ?_; conv => whnf) | (refine draw_lex hE ?_ ?_; decide +kernel; conv => whnf) | (refine brd (fun h => ?_) (fun h => ?_) <;> conv => whnf) | (refine br (fun h => ?_) (fun h => ?_) <;> conv => whnf) | (refine ret_now hE ?_; conv => whnf) | (intro hlen; conv => whnf) | (refine seg_here ?_; conv => whnf) | (refine both ?_ ?_ <;> conv => whnf))
  all_goals
    refine ⟨rfl, ?_⟩
    congr 1
    symm
    first | (simp_all; done) | (simp_all; omega)
theorem chs_at {cs : List Ch} {k : Nat} (h : k < cs.length) : ∃ kd p n a t ps, cs[k]? = some ⟨kd, p, .mk n a t ps⟩ ∧ (cs.map chA)[k]? = some (.agg [.int .i64 kd, .lst (p.map (V.int .i64)), .str n, .lst (a.map attA), .str t, .lst (nodesL ps)]) := by
  have hx : cs[k]? = some cs[k] := List.getElem?_eq_getElem h
  obtain ⟨kd, p, n, a, t, ps, he⟩ : ∃ kd p n a t ps, cs[k] = ⟨kd, p, .mk n a t ps⟩ := by
    rcases cs[k] with ⟨kd, p, x⟩
    cases x
    exact ⟨_, _, _, _, _, _, rfl⟩
  refine ⟨kd, p, n, a, t, ps, by rw [hx, he], ?_⟩
  rw [List.getElem?_map, hx, he, Option.map_some, chA_mk]
theorem chA_nr (bs : List Ch) : nrL (bs.map chA) := by
  rw [nrL_mem]
  intro x hx
  obtain ⟨⟨kd, p, y⟩, _, rfl⟩ := List.mem_map.1 hx
  cases y
  rw [chA_mk]
  exact ⟨trivial, trivial, trivial, trivial, trivial, trivial, trivial⟩
theorem nl_chs : ∀ bs : List Ch, nlL (bs.map chA) = bs.map chA
  | [] => by simp [nlL]
  | ⟨kd, p, y⟩ :: bs => by
    cases y
    simp only [List.map_cons, nlL, nl_chs bs, chA_mk]
    simp [V.nl, nlL, nl_atts, nl_nodes, nl_ints]
theorem playA_step {cs : List Ch} {k : Nat} {c : Ch} (h : cs[k]? = some c) (l : List Nd) (bs : List Ch) : playA l bs (cs.drop k) = if c.kind < 1 ∨ 3 < c.kind then .error 3 else if c.kind = 2 ∧ emptyN c.node = false then .error 4 else
      if (chgT c l c.path).2.2 = 0 then playA (chgT c l c.path).1 (bs ++ [(chgT c l c.path).2.1]) (cs.drop (k + 1)) else .error (chgT c l c.path).2.2 := by
  obtain ⟨hl, hq⟩ := List.getElem?_eq_some_iff.1 h
  rw [← hq, List.drop_eq_getElem_cons hl, playA]
set_option maxHeartbeats 8000000 in
theorem walk_play (l : List Nd) (hl : gL 0 l) (cs : List Ch) (hc : ∀ c ∈ cs, gN 0 c.node ∧ c.path.length * 8 ≤ 140737488351232) : Fn1 Try.prog 10 [.lst (nodesL l), .lst (cs.map chA)] (fun r => r = playV (playR l cs)) := by
  have hcm : (cs.map chA).length = cs.length := by simp
  refine fn1_nl ?_
  by_cases h40 : 40 < cs.length
  · rw [show playR l cs = .error 1 from if_pos h40]
    refine fn1E (T := Try.tt) Try.func10 rfl tt_all follows_all ?_ ?_ fun C hC hE => ?_
    · kernel_rfl
    · exact Nat.le_of_ble_eq_true (by kernel_rfl)
    conv => whnf
    repeat' (first | (refine brd_t (by first | assumption | omega) ?_; conv => whnf) | (refine brd_f (by first | assumption | omega) ?_; conv => whnf) | (refine ask (by first | assumption | omega) ?_; conv => whnf) | (refine fit64 (by omega) ?_; conv => whnf) | (refine fit (by simp only [kmin, kmax]; omega) ?_; conv => whnf) | (refine br_t (by assumption) ?_; conv => whnf) | (refine br_f (by assumption) ?_; conv => whnf) | (refine get_of (by assumption) ?_; conv => whnf) | (refine get_map (by assumption) ?_; conv => whnf) | (refine draw_lex hE ?_ ?_; decide +kernel; conv => whnf) | (refine brd (fun h => ?_) (fun h => ?_) <;> conv => whnf) | (refine br (fun h => ?_) (fun h => ?_) <;> conv => whnf) | (refine ret_now hE ?_; conv => whnf) | (intro hlen; conv => whnf) | (refine seg_here ?_; conv => whnf) | (refine both ?_ ?_ <;> conv => whnf))
    all_goals exact ⟨rfl, by simp [V.nl, nlL, playV]⟩
  · rw [show playR l cs = playA l [] cs from if_neg h40]
    refine fn1E (T := Try.tt) Try.func10 rfl tt_all follows_all ?_ ?_ fun C hC hE => ?_
    · kernel_rfl
    · exact Nat.le_of_ble_eq_true (by kernel_rfl)
    conv => whnf
    repeat' (first | (refine brd_t (by first | assumption | omega) ?_; conv => whnf) | (refine brd_f (by first | assumption | omega) ?_; conv => whnf) | (refine ask (by first | assumption | omega) ?_; conv => whnf) | (refine fit64 (by omega) ?_; conv => whnf) | (refine fit (by simp only [kmin, kmax]; omega) ?_; conv => whnf) | (refine br_t (by assumption) ?_; conv => whnf) | (refine br_f (by assumption) ?_; conv => whnf) | (refine get_of (by assumption) ?_; conv => whnf) | (refine get_map (by assumption) ?_; conv => whnf) | (refine draw_lex hE ?_ ?_; decide +kernel; conv => whnf) | (refine brd (fun h => ?_) (fun h => ?_) <;> conv => whnf) | (refine br (fun h => ?_) (fun h => ?_) <;> conv => whnf) | (refine ret_now hE ?_; conv => whnf) | (intro hlen; conv => whnf) | (refine seg_here ?_; conv => whnf) | (refine both ?_ ?_ <;> conv => whnf))
    refine loopE (fun ((k, cur, bs) : Nat × List Nd × List Ch) => ⟨62, [(0, .lst (nodesL cur)), (7, .sl 0 0 bs.length), (16, .lst (cs.map chA)), (17, .int .i64 (cs.map chA).length), (18, .int .i64 k)], [some (.row 6 (bs.map chA))]⟩)
      (fun (k, cur, bs) => k ≤ cs.length ∧ bs.length = k ∧ gL k cur ∧ playA l [] cs = playA cur bs (cs.drop k)) (fun (k, _) => cs.length - k) (0, l, []) hE ?_ ?_ ⟨Nat.zero_le _, rfl, hl, by rw [List.drop_zero]⟩ ?_
    · kernel_rfl
    · exact up_own 7 6 rfl rfl (at_keep [0, 7, 16, 17, 18] rfl)
    rintro ⟨k, cur, bs⟩ ⟨hk, hbl, hg, hI⟩
    have hk : k ≤ cs.length := hk
    have hbl : bs.length = k := hbl
    have hg : gL k cur := hg
    have hI : playA l [] cs = playA cur bs (cs.drop k) := hI
    have hbm : (bs.map chA).length = bs.length := by simp
    by_cases hlt : k < cs.length
    · obtain ⟨kd, p, n, a, t, ps, hx, hx'⟩ := chs_at hlt
      have hcx := hc _ (List.mem_of_getElem? hx)
      have hfn : fitN (.mk n a t ps) := gN_fit (by omega) _ hcx.1
      have hst := playA_step hx cur bs
      have hem := walk_empty (.mk n a t ps) hfn
      rw [nodeA_mk] at hem
      have hch := walk_change ⟨kd, p, .mk n a t ps⟩ hfn hcx.2 p cur (gL_fit (by omega) hg)
      rw [chA_mk] at hch
      by_cases hk3 : kd < 1 ∨ 3 < kd
      · rw [hI, hst, if_pos hk3]
        conv => whnf
        repeat' (first | (refine brd_t (by first | assumption | omega) ?_; conv => whnf) | (refine brd_f (by first | assumption | omega) ?_; conv => whnf) | (refine ask (by first | assumption | omega) ?_; conv => whnf) | (refine fit64 (by omega) ?_; conv => whnf) | (refine fit (by simp only [kmin, kmax]; omega) ?_; conv => whnf) | (refine br_t (by assumption) ?_; conv => whnf) | (refine br_f (by assumption) ?_; conv => whnf) | (refine get_of (by assumption) ?_; conv => whnf) | (refine get_map (by assumption) ?_; conv => whnf) | (refine draw_lex hE ?_ ?_; decide +kernel; conv => whnf) | (refine brd (fun h => ?_) (fun h => ?_) <;> conv => whnf) | (refine br (fun h => ?_) (fun h => ?_) <;> conv => whnf) | (refine ret_now hE ?_; conv => whnf) | (intro hlen; conv => whnf) | (refine seg_here ?_; conv => whnf) | (refine both ?_ ?_ <;> conv => whnf))
        all_goals exact ⟨rfl, by simp [V.nl, nlL, playV]⟩
      · simp only at hst
        rw [if_neg hk3] at hst
        by_cases hk4 : kd = 2 ∧ emptyN (.mk n a t ps) = false
        · rw [if_pos hk4] at hst
          rw [hI, hst]
          obtain ⟨rfl, hem2⟩ := hk4
          rw [hem2] at hem
          conv => whnf
          repeat' (first | (refine brd_t (by first | assumption | omega) ?_; conv => whnf) | (refine brd_f (by first | assumption | omega) ?_; conv => whnf) | (refine ask (by first | assumption | omega) ?_; conv => whnf) | (refine fit64 (by omega) ?_; conv => whnf) | (refine fit (by simp only [kmin, kmax]; omega) ?_; conv => whnf) | (refine br_t (by assumption) ?_; conv => whnf) | (refine br_f (by assumption) ?_; conv => whnf) | (refine get_of (by assumption) ?_; conv => whnf) | (refine get_map (by assumption) ?_; conv => whnf) | (refine call_eq (hem) hC hasBody_23 ?_ ?_ ?_; kernel_rfl; kernel_rfl; conv => whnf) | (refine callq_eq (hem) hC hasBody_23 ?_ ?_ ?_; kernel_rfl; kernel_rfl; conv => whnf) | (refine draw_lex hE ?_ ?_; decide +kernel; conv => whnf) | (refine brd (fun h => ?_) (fun h => ?_) <;> conv => whnf) | (refine br (fun h => ?_) (fun h => ?_) <;> conv => whnf) | (refine ret_now hE ?_; conv => whnf) | (intro hlen; conv => whnf) | (refine seg_here ?_; conv => whnf) | (refine both ?_ ?_ <;> conv => whnf))
          all_goals exact ⟨rfl, by simp [V.nl, nlL, playV]⟩
        · rw [if_neg hk4] at hst
          have hgr := chg_grow ⟨kd, p, .mk n a t ps⟩ hcx.1 p k cur hg
          generalize chgT ⟨kd, p, .mk n a t ps⟩ cur p = R at *
          obtain ⟨l', b, e⟩ := R
          obtain ⟨bk, bp, bx⟩ := b
          obtain ⟨bn, ba, bt, bq⟩ := bx
          simp only [chgV, chA_mk] at hch
          simp only at hst hgr
          have hemc : kd = 2 → emptyN (.mk n a t ps) = true := fun e => by
            cases hh : emptyN (.mk n a t ps) with
            | true => rfl
            | false => exact absurd ⟨e, hh⟩ hk4
          by_cases he : e = 0
          · subst he
            rw [if_pos rfl] at hst
            have hft : (bs ++ [(⟨bk, bp, .mk bn ba bt bq⟩ : Ch)]).map chA = bs.map chA ++ [.agg [.int .i64 bk, .lst (bp.map (V.int .i64)), .str bn, .lst (ba.map attA), .str bt, .lst (nodesL bq)]] := by rw [List.map_append, List.map_cons, List.map_nil, chA_mk]
            have htk : List.take bs.length (List.drop 0 (bs.map chA)) = bs.map chA := by rw [List.drop_zero]; exact List.take_of_length_le (by omega)
            have e2 : killL 3 (killL 2 (killL 1 (killL 0 (List.take bs.length (List.drop 0 (bs.map chA)) ++ List.take 1 (List.drop 0 [.agg [.int .i64 bk, .lst (bp.map (V.int .i64)), .str bn, .lst (ba.map attA), .str bt, .lst (nodesL bq)]]))))) = (bs ++ [(⟨bk, bp, .mk bn ba bt bq⟩ : Ch)]).map chA := by
              rw [show List.take bs.length (List.drop 0 (bs.map chA)) ++ List.take 1 (List.drop 0 [V.agg [.int .i64 bk, .lst (bp.map (V.int .i64)), .str bn, .lst (ba.map attA), .str bt, .lst (nodesL bq)]]) = (bs ++ [(⟨bk, bp, .mk bn ba bt bq⟩ : Ch)]).map chA from by rw [htk, hft]; rfl]
              rw [kill_nrL _ (chA_nr _), kill_nrL _ (chA_nr _), kill_nrL _ (chA_nr _), kill_nrL _ (chA_nr _)]
            have e1 : bs.length + (List.take 1 (List.drop 0 [V.agg [.int .i64 bk, .lst (bp.map (V.int .i64)), .str bn, .lst (ba.map attA), .str bt, .lst (nodesL bq)]])).length = (bs ++ [(⟨bk, bp, .mk bn ba bt bq⟩ : Ch)]).length := by rw [List.length_append]; rfl
            have hI2 : k + 1 ≤ cs.length ∧ (bs ++ [(⟨bk, bp, .mk bn ba bt bq⟩ : Ch)]).length = k + 1 ∧ gL (k + 1) l' ∧ playA l [] cs = playA l' (bs ++ [⟨bk, bp, .mk bn ba bt bq⟩]) (cs.drop (k + 1)) := ⟨hlt, by simp [hbl], hgr, hI.trans hst⟩
            by_cases hk2 : kd = 2
            · rw [hemc hk2] at hem
              conv => whnf
              repeat' (first | (refine brd_t (by first | assumption | omega) ?_; conv => whnf) | (refine brd_f (by first | assumption | omega) ?_; conv => whnf) | (refine ask (by first | assumption | omega) ?_; conv => whnf) | (refine fit64 (by omega) ?_; conv => whnf) | (refine fit (by simp only [kmin, kmax]; omega) ?_; conv => whnf) | (refine br_t (by assumption) ?_; conv => whnf) | (refine br_f (by assumption) ?_; conv => whnf) | (refine get_of (by assumption) ?_; conv => whnf) | (refine get_map (by assumption) ?_; conv => whnf) | (refine call_eq (hem) hC hasBody_23 ?_ ?_ ?_; kernel_rfl; kernel_rfl; conv => whnf) | (refine callq_eq (hem) hC hasBody_23 ?_ ?_ ?_; kernel_rfl; kernel_rfl; conv => whnf) | (refine call_eq (hch) hC hasBody_24 ?_ ?_ ?_; kernel_rfl; kernel_rfl; conv => whnf) | (refine callq_eq (hch) hC hasBody_24 ?_ ?_ ?_; kernel_rfl; kernel_rfl; conv => whnf) | (refine ask (Nat.le_refl 1) ?_; conv => whnf) | (refine ask ⟨?_, ?_, ?_⟩ ?_; omega; (show bs.length + 1 ≤ 9223372036854775807; omega); (show (bs.length + 1) * 112 ≤ 140737488355328; omega); conv => whnf) | (refine draw_lex hE ?_ ?_; decide +kernel; conv => whnf) | (refine brd (fun h => ?_) (fun h => ?_) <;> conv => whnf) | (refine br (fun h => ?_) (fun h => ?_) <;> conv => whnf) | (refine ret_now hE ?_; conv => whnf) | (intro hlen; conv => whnf) | (refine seg_here ?_; conv => whnf) | (refine both ?_ ?_ <;> conv => whnf))
              refine next_drop [0, 7, 16, 17, 18] [1, 2, 3] (k + 1, l', bs ++ [⟨bk, bp, .mk bn ba bt bq⟩]) hI2 (show cs.length - (k + 1) < cs.length - k by omega) ?_
              conv => whnf
              rw [e1, e2]
              rfl
            · conv => whnf
              repeat' (first | (refine brd_t (by first | assumption | omega) ?_; conv => whnf) | (refine brd_f (by first | assumption | omega) ?_; conv => whnf) | (refine ask (by first | assumption | omega) ?_; conv => whnf) | (refine fit64 (by omega) ?_; conv => whnf) | (refine fit (by simp only [kmin, kmax]; omega) ?_; conv => whnf) | (refine br_t (by assumption) ?_; conv => whnf) | (refine br_f (by assumption) ?_; conv => whnf) | (refine get_of (by assumption) ?_; conv => whnf) | (refine get_map (by assumption) ?_; conv => whnf) | (refine call_eq (hch) hC hasBody_24 ?_ ?_ ?_; kernel_rfl; kernel_rfl; conv => whnf) | (refine callq_eq (hch) hC hasBody_24 ?_ ?_ ?_; kernel_rfl; kernel_rfl; conv => whnf) | (refine ask (Nat.le_refl 1) ?_; conv => whnf) | (refine ask ⟨?_, ?_, ?_⟩ ?_; omega; (show bs.length + 1 ≤ 9223372036854775807; omega); (show (bs.length + 1) * 112 ≤ 140737488355328; omega); conv => whnf) | (refine draw_lex hE ?_ ?_; decide +kernel; conv => whnf) | (refine brd (fun h => ?_) (fun h => ?_) <;> conv => whnf) | (refine br (fun h => ?_) (fun h => ?_) <;> conv => whnf) | (refine ret_now hE ?_; conv => whnf) | (intro hlen; conv => whnf) | (refine seg_here ?_; conv => whnf) | (refine both ?_ ?_ <;> conv => whnf))
              refine next_drop [0, 7, 16, 17, 18] [1, 2, 3] (k + 1, l', bs ++ [⟨bk, bp, .mk bn ba bt bq⟩]) hI2 (show cs.length - (k + 1) < cs.length - k by omega) ?_
              conv => whnf
              rw [e1, e2]
              rfl
          · rw [if_neg he] at hst
            rw [hI, hst]
            by_cases hk2 : kd = 2
            · rw [hemc hk2] at hem
              conv => whnf
              repeat' (first | (refine brd_t (by first | assumption | omega) ?_; conv => whnf) | (refine brd_f (by first | assumption | omega) ?_; conv => whnf) | (refine ask (by first | assumption | omega) ?_; conv => whnf) | (refine fit64 (by omega) ?_; conv => whnf) | (refine fit (by simp only [kmin, kmax]; omega) ?_; conv => whnf) | (refine br_t (by assumption) ?_; conv => whnf) | (refine br_f (by assumption) ?_; conv => whnf) | (refine get_of (by assumption) ?_; conv => whnf) | (refine get_map (by assumption) ?_; conv => whnf) | (refine call_eq (hem) hC hasBody_23 ?_ ?_ ?_; kernel_rfl; kernel_rfl; conv => whnf) | (refine callq_eq (hem) hC hasBody_23 ?_ ?_ ?_; kernel_rfl; kernel_rfl; conv => whnf) | (refine call_eq (hch) hC hasBody_24 ?_ ?_ ?_; kernel_rfl; kernel_rfl; conv => whnf) | (refine callq_eq (hch) hC hasBody_24 ?_ ?_ ?_; kernel_rfl; kernel_rfl; conv => whnf) | (refine draw_lex hE ?_ ?_; decide +kernel; conv => whnf) | (refine brd (fun h => ?_) (fun h => ?_) <;> conv => whnf) | (refine br (fun h => ?_) (fun h => ?_) <;> conv => whnf) | (refine ret_now hE ?_; conv => whnf) | (intro hlen; conv => whnf) | (refine seg_here ?_; conv => whnf) | (refine both ?_ ?_ <;> conv => whnf))
              all_goals exact ⟨rfl, by simp [V.nl, nlL, playV]⟩
            · conv => whnf
              repeat' (first | (refine brd_t (by first | assumption | omega) ?_; conv => whnf) | (refine brd_f (by first | assumption | omega) ?_; conv => whnf) | (refine ask (by first | assumption | omega) ?_; conv => whnf) | (refine fit64 (by omega) ?_; conv => whnf) | (refine fit (by simp only [kmin, kmax]; omega) ?_; conv => whnf) | (refine br_t (by assumption) ?_; conv => whnf) | (refine br_f (by assumption) ?_; conv => whnf) | (refine get_of (by assumption) ?_; conv => whnf) | (refine get_map (by assumption) ?_; conv => whnf) | (refine call_eq (hch) hC hasBody_24 ?_ ?_ ?_; kernel_rfl; kernel_rfl; conv => whnf) | (refine callq_eq (hch) hC hasBody_24 ?_ ?_ ?_; kernel_rfl; kernel_rfl; conv => whnf) | (refine draw_lex hE ?_ ?_; decide +kernel; conv => whnf) | (refine brd (fun h => ?_) (fun h => ?_) <;> conv => whnf) | (refine br (fun h => ?_) (fun h => ?_) <;> conv => whnf) | (refine ret_now hE ?_; conv => whnf) | (intro hlen; conv => whnf) | (refine seg_here ?_; conv => whnf) | (refine both ?_ ?_ <;> conv => whnf))
              all_goals exact ⟨rfl, by simp [V.nl, nlL, playV]⟩
    · have hkl : k = cs.length := by omega
      have hcp := (copy_copies (szL cur)).2 cur (Nat.le_refl _) (gL_fit (by omega) hg)
      rw [hkl, List.drop_length, playA] at hI
      rw [hI]
      conv => whnf
      repeat' (first | (refine brd_t (by first | assumption | omega) ?_; conv => whnf) | (refine brd_f (by first | assumption | omega) ?_; conv => whnf) | (refine ask (by first | assumption | omega) ?_; conv => whnf) | (refine fit64 (by omega) ?_; conv => whnf) | (refine fit (by simp only [kmin, kmax]; omega) ?_; conv => whnf) | (refine br_t (by assumption) ?_; conv => whnf) | (refine br_f (by assumption) ?_; conv => whnf) | (refine get_of (by assumption) ?_; conv => whnf) | (refine get_map (by assumption) ?_; conv => whnf) | (refine call_eq (hcp) hC hasBody_25 ?_ ?_ ?_; kernel_rfl; kernel_rfl; conv => whnf) | (refine callq_eq (hcp) hC hasBody_25 ?_ ?_ ?_; kernel_rfl; kernel_rfl; conv => whnf) | (refine ret_up (up_frzK 0 5 [4, 6] rfl ?_ rfl ?_ rfl (up_here ?_)); (exact chA_nr _); (exact hbm.symm)) | (refine draw_lex hE ?_ ?_; decide +kernel; conv => whnf) | (refine brd (fun h => ?_) (fun h => ?_) <;> conv => whnf) | (refine br (fun h => ?_) (fun h => ?_) <;> conv => whnf) | (refine ret_now hE ?_; conv => whnf) | (intro hlen; conv => whnf) | (refine seg_here ?_; conv => whnf) | (refine both ?_ ?_ <;> conv => whnf))
      all_goals exact ⟨rfl, by simp [V.nl, nlL, playV, nl_nodes, nl_chs]⟩
end Go.Proofs.Ytkkcmobnhiiacaa
