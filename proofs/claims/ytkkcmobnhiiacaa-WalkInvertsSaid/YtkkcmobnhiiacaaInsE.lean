/- slices.Insert, slices.Delete at nodes: as calls that take an own row and give it back. No conditions. -/
import Derived.Test.YtkkcmobnhiiacaaInsD
import Derived.Test.YtkkcmobnhiiacaaJoin
set_option linter.unusedSimpArgs false
set_option linter.unusedVariables false
set_option maxRecDepth 100000
namespace Go.Proofs.Ytkkcmobnhiiacaa
open Go.RowKit

theorem CellsOf.take {w : World} {I : Nat → Prop} {bl : Nat → Option BI} {z : Nat} {xs : List V} {us : List Value} (h : CellsOf w I bl z xs us) (i : Nat) (hi : i ≤ xs.length) : CellsOf w I bl z (xs.take i) (us.take (i * z)) := by
  obtain ⟨h1, h2, h3, h4⟩ := h
  have hm := Nat.mul_le_mul_right z hi
  refine ⟨by simp [h1, Nat.min_eq_left hi, Nat.min_eq_left hm], fun u hu => h2 u (List.mem_of_mem_take hu), fun k x hx => ?_, fun k x j c u hx hc hu => ?_⟩
  · rw [List.getElem?_take] at hx
    split at hx
    · exact h3 k x hx
    · cases hx
  · rw [List.getElem?_take] at hx hu
    split at hx
    · split at hu
      · exact h4 k x j c u hx hc hu
      · cases hu
    · cases hx
theorem CellsOf.drop {w : World} {I : Nat → Prop} {bl : Nat → Option BI} {z : Nat} {xs : List V} {us : List Value} (h : CellsOf w I bl z xs us) (i : Nat) : CellsOf w I bl z (xs.drop i) (us.drop (i * z)) := by
  obtain ⟨h1, h2, h3, h4⟩ := h
  refine ⟨by simp [h1, Nat.sub_mul], fun u hu => h2 u (List.mem_of_mem_drop hu), fun k x hx => ?_, fun k x j c u hx hc hu => ?_⟩
  · rw [List.getElem?_drop] at hx
    exact h3 _ x hx
  · rw [List.getElem?_drop] at hx hu
    refine h4 (i + k) x j c u hx hc ?_
    rw [Nat.add_mul, Nat.add_assoc]
    exact hu
/-- What is left behind such a call. -/
def PostR (C : Ctx) (els : List V) (m : Nat) (v : Value) (w' : World) : Prop := ∃ I' bl', Rep w' I' bl' v (.sl 0 0 m) ∧ HeapRep C [some (.row 4 els)] w' I' bl'
theorem fin_row {C : Ctx} {els els' : List V} {w : World} {I : Nat → Prop} {bl : Nat → Option BI} (hp : RP C ⟨[], [some (.row 4 els)]⟩ ⟨#[], []⟩ w I bl) {b base c m : Nat} {cur : Array Value} {e : TypeId} (hbl : bl 0 = some ⟨some b, base, 4⟩) (hg : CellsAt 4 w b cur e)
    (cur' : List Value) (hs : cur'.length = cur.size) {us : List Value} (hc : CellsOf w I bl 4 els' us) (hnr : nrL els') (hm : els'.length = m) (hmc : m ≤ c) (hcm : c ≤ maxLen) (hfit : base + c * 4 ≤ cur.size) (hcur : (cur'.drop base).take (m * 4) = us) :
    PostR C els' m (.slice (some ⟨b, base, none⟩) m c) (w.setRow b cur'.toArray) := by
  obtain ⟨hb1, hb2, hb3⟩ := hp.heap.own 0 _ b hbl rfl
  obtain ⟨fz, hfz, hgh⟩ := hg
  have hsz : cur'.toArray.size = cur.size := by simpa using hs
  have hl := later_setRow (I := I) hgh hsz hb2
  have hob : ObRep (w.setRow b cur'.toArray) I (upd bl 0 ⟨some b, base, 4⟩) 0 (.row 4 els') := by
    have h2 := (hc.later hl (fun _ h => h) (fun _ _ h => h)).kill 0 (bl' := upd bl 0 ⟨some b, base, 4⟩) (fun k hk => upd_other hk)
    rw [kill_nrL _ hnr] at h2
    refine obRep_of_cells (upd_same _ _ _) (CellsAt.setRow ⟨fz, hfz, hgh⟩ hsz) h2 (by rw [hm, hsz]; omega) (fun p hp' => ?_)
    rw [← hcur] at hp' ⊢
    rw [List.getElem?_take, if_pos (by simp at hp'; omega), List.getElem?_drop]
    simp
  have hr := hp.replace hbl hl (hp.heap.kept.setRow hb3 hgh hsz) (by rw [size_setRow]; exact Nat.le_refl _) (fun k i b' hk h1 h2 => setRow_other w b b' _ (fun e => hk (hp.heap.apart k 0 i _ b' h1 hbl h2 (by subst e; rfl)))) ⟨some b, base, 4⟩
    (fun b' hb' => by
      simp only [Option.some.injEq] at hb'
      subst hb'
      refine ⟨by rw [size_setRow]; exact hb1, hb2, hb3, fun k i b' hk h1 h2 e => hk (hp.heap.apart k 0 i _ b' h1 hbl h2 (by subst e; rfl))⟩) hob
  refine ⟨I, _, ?_, hr.heap⟩
  have := Rep.sl (w := w.setRow b cur'.toArray) (I := I) (bl := upd bl 0 ⟨some b, base, 4⟩) 0 0 m c b base 4 cur'.toArray.size e (upd_same _ _ _) (CellsAt.shape (z := 4) (CellsAt.setRow ⟨fz, hfz, hgh⟩ hsz)) (by rw [hsz]; omega) hmc hcm
  simpa using this
theorem fin_new {C : Ctx} {els els' : List V} {w w' : World} {I : Nat → Prop} {bl : Nat → Option BI} (hp : RP C ⟨[], [some (.row 4 els)]⟩ ⟨#[], []⟩ w I bl) {i0 : BI} (hbl : bl 0 = some i0) {v : Value} {m : Nat} {us : List Value} (hN : NewRow w w' v m us)
    (hc : CellsOf w I bl 4 els' us) (hnr : nrL els') (hm : els'.length = m) : PostR C els' m v w' := by
  obtain ⟨⟨G, Z, rfl, hge, hcm, hZ, hfit, htk⟩, hsz, hB⟩ := hN
  have hl : Later I w w' := ⟨fun b hb => hB.block b (hp.heap.imm b hb).1, (kept_below hB).shape⟩
  have hob : ObRep w' I (upd bl 0 ⟨some w.heap.size, 0, 4⟩) 0 (.row 4 els') := by
    have h2 := (hc.later hl (fun _ h => h) (fun _ _ h => h)).kill 0 (bl' := upd bl 0 ⟨some w.heap.size, 0, 4⟩) (fun k hk => upd_other hk)
    rw [kill_nrL _ hnr] at h2
    refine obRep_of_cells (upd_same _ _ _) (CellsAt.of hZ) h2 (by rw [hm]; omega) (fun p hp' => ?_)
    rw [← htk] at hp' ⊢
    rw [List.getElem?_take, if_pos (by simp at hp'; omega)]
    simp
  have hK : Kept C.E C.W0 w' := hp.heap.kept.trans ⟨hB.os, hB.tape, hB.output, hB.size, fun k hk _ => hB.block k hk, (kept_below hB).shape⟩
  have hr := hp.replace hbl hl hK hB.size (fun k i b hk h1 h2 => hB.block b (hp.heap.own k i b h1 h2).1) ⟨some w.heap.size, 0, 4⟩
    (fun b hb => by
      simp only [Option.some.injEq] at hb
      subst hb
      refine ⟨by omega, fun h => by have := (hp.heap.imm _ h).1; omega, .inr hp.heap.kept.size, fun k i b' hk h1 h2 e1 => ?_⟩
      have := (hp.heap.own k i b' h1 h2).1
      omega) hob
  refine ⟨I, _, ?_, hr.heap⟩
  have := Rep.sl (w := w') (I := I) (bl := upd bl 0 ⟨some w.heap.size, 0, 4⟩) 0 0 m G w.heap.size 0 4 Z.size 42 (upd_same _ _ _) (by simp [World.shape?, hZ]) (by omega) hge hcm
  simpa using this
/-- A list of one, as it lies in memory. -/
theorem lst1_inv {w : World} {I : Nat → Prop} {bl : Nat → Option BI} {v : Value} {x : V} (h : Rep w I bl v (.lst [x])) (hx : x.cells.length = 4) : ∃ vb voff vc us, v = .slice (some ⟨vb, voff, none⟩) 1 vc ∧ I vb ∧ us.length = 4 ∧ (∀ j u, us[j]? = some u → w.cell? ⟨vb, voff + j, none⟩ = some u) ∧ CellsOf w I bl 4 [x] us := by
  generalize hL : V.lst [x] = y at h
  cases h with
  | pure v y hp =>
    generalize hL2 : ([x] : List V) = L at hL
    cases hp with
    | lnil a c => cases hL; cases hL2
    | lst b off c z l u hI hlc hcm hz hcell hone hpr =>
      cases hL
      subst hL2
      have hz4 : z = 4 := by
        have := hz 0 x rfl
        omega
      subst hz4
      have hu : ∀ j, j < 4 → w.cell? ⟨b, off + j, none⟩ = some (u 0 j) := fun j hj => by
        have := hcell 0 j (by simp) hj
        simpa using this
      refine ⟨b, off, c, [u 0 0, u 0 1, u 0 2, u 0 3], by simp, hI, rfl, fun j v hj => ?_, rfl, fun v hv => ?_, fun i y hy => ?_, fun i y j c' v hy hc' hv => ?_⟩
      · match j, hj with
        | 0, hj => cases hj; exact hu 0 (by decide)
        | 1, hj => cases hj; exact hu 1 (by decide)
        | 2, hj => cases hj; exact hu 2 (by decide)
        | 3, hj => cases hj; exact hu 3 (by decide)
        | k + 4, hj => simp at hj
      · simp only [List.mem_cons, List.not_mem_nil, or_false] at hv
        rcases hv with rfl | rfl | rfl | rfl
        · exact hone 0 0
        · exact hone 0 1
        · exact hone 0 2
        · exact hone 0 3
      · match i, hy with
        | 0, hy => cases hy; exact hx
        | k + 1, hy => simp at hy
      · match i, hy with
        | 0, hy =>
          cases hy
          have hp0 := hpr 0 x j c' rfl hc'
          have hj : j < 4 := by rw [← hx]; exact (List.getElem?_eq_some_iff.1 hc').1
          rw [Nat.zero_mul, Nat.zero_add] at hv
          have : v = u 0 j := by
            match j, hj, hv with
            | 0, _, hv => cases hv; rfl
            | 1, _, hv => cases hv; rfl
            | 2, _, hv => cases hv; rfl
            | 3, _, hv => cases hv; rfl
          rw [this]
          exact .pure _ _ hp0
        | k + 1, hy => simp at hy
    | _ => cases hL
  | _ => cases hL
theorem nrL_take {l : List V} (h : nrL l) (i : Nat) : nrL (l.take i) := by
  induction l generalizing i with
  | nil => simpa using h
  | cons x r ih =>
    cases i with
    | zero => exact trivial
    | succ i => exact ⟨h.1, ih h.2 i⟩
theorem nrL_drop {l : List V} (h : nrL l) (i : Nat) : nrL (l.drop i) := by
  induction l generalizing i with
  | nil => simpa using h
  | cons x r ih =>
    cases i with
    | zero => exact h
    | succ i => exact ih h.2 i
theorem nrL_app {l r : List V} (h : nrL l) (k : nrL r) : nrL (l ++ r) := by
  induction l with
  | nil => exact k
  | cons x s ih => exact ⟨h.1, ih h.2⟩
/-- From what is left behind to the contract. -/
theorem post_hfn {P : Program} {f : FuncId} {args : Array Value} {w : World} {C : Ctx} {els : List V} {m : Nat}
    (h : Calls P f args w fun e w' => ∃ v, e = .returned v ∧ PostR C els m v w') :
    Calls P f args w fun e w' => ∃ v r objs' I' bl', e = .returned v ∧ (r = .sl 0 0 m ∧ objs' = [.row 4 els]) ∧ objs'.length = 1 ∧ Rep w' I' bl' v r ∧ HeapRep C (objs'.map some) w' I' bl' ∧ ∀ j ∈ ([] : List Nat), bl' j = bl' j := by
  refine h.mono ?_
  rintro e w' ⟨v, rfl, I', bl', h1, h2⟩
  exact ⟨v, _, _, I', bl', rfl, ⟨rfl, rfl⟩, rfl, h1, h2, fun j hj => by cases hj⟩
set_option maxHeartbeats 4000000 in
theorem h_insert (els : List V) (x : V) (n i : Nat) (hn : els.length = n) (hi : i ≤ n) (hnr : nrL els) (hxr : nrL [x]) (hx : x.cells.length = 4) (hbig : (n + 1) * 80 ≤ 140737488355328) :
    HFn Try.prog 38 [.sl 0 0 n, .int .i64 i, .lst [x]] [.row 4 els] [] (fun r o => r = .sl 0 0 (n + 1) ∧ o = [.row 4 (els.take i ++ [x] ++ els.drop i)]) := by
  intro w I bl vs hl hv hH
  obtain ⟨v0, v1, v2, rfl⟩ : ∃ v0 v1 v2, vs = [v0, v1, v2] := by
    match vs, hl with
    | [a, b, c], _ => exact ⟨a, b, c, rfl⟩
  have h0 := hv 0 v0 _ rfl rfl
  obtain rfl := (hv 1 v1 _ rfl rfl).inv_int
  obtain ⟨vb, voff, vc, us, rfl, hIv, hul, hus, hcu⟩ := lst1_inv (hv 2 v2 _ rfl rfl) hx
  have hp : RP ⟨Try.prog, w, blocksOf bl, I⟩ ⟨[], [some (.row 4 els)]⟩ ⟨#[], []⟩ w I bl := ⟨rfl, ⟨rfl, fun i v x h _ => by simp at h⟩, hH⟩
  have hvlt := (hp.heap.imm vb hIv).1
  have hnr' : nrL (els.take i ++ [x] ++ els.drop i) := nrL_app (nrL_app (nrL_take hnr i) hxr) (nrL_drop hnr i)
  have hlen' : (els.take i ++ [x] ++ els.drop i).length = n + 1 := by simp; omega
  refine (Calls.mono ?_ fun e w' (h : ∃ v, e = .returned v ∧ PostR ⟨Try.prog, w, blocksOf bl, I⟩ (els.take i ++ [x] ++ els.drop i) (n + 1) v w') => ?_)
  rotate_left
  · obtain ⟨v, rfl, I', bl', h1, h2⟩ := h
    exact ⟨v, _, _, I', bl', rfl, ⟨rfl, rfl⟩, rfl, h1, h2, fun j hj => by cases hj⟩
  obtain ⟨bi, hb1, hb2, hb3, hb4⟩ := hp.heap.obj 0 _ rfl
  rcases h0.inv_sl with ⟨base, z, hbl, _, hl0, rfl⟩ | ⟨a, i0, hbl, hl0, rfl⟩ | ⟨c, b, base, z, k, e, hbl, hsh, hfit, hnc, hcm, rfl⟩
  · subst hl0
    obtain rfl : els = [] := List.eq_nil_of_length_eq_zero hn
    obtain rfl : i = 0 := by omega
    refine (ins_end_grow none 0 0 vb voff vc [] us w (Nat.le_refl _) (by omega) (by omega) (by simp [Builtin.firstCells]) rfl (fun _ => rfl) hul hus hcu.2.1).mono ?_
    rintro e w' ⟨v, rfl, hN⟩
    exact ⟨v, rfl, fin_new hp hbl hN (by simpa using hcu) hnr' hlen'⟩
  · subst hl0
    obtain rfl : els = [] := List.eq_nil_of_length_eq_zero hn
    obtain rfl : i = 0 := by omega
    refine (ins_end_grow (some a) 0 0 vb voff vc [] us w (Nat.le_refl _) (by omega) (by omega) (by simp [Builtin.firstCells, loadCells, loadCellsFrom]) rfl (fun h => by cases h) hul hus hcu.2.1).mono ?_
    rintro e w' ⟨v, rfl, hN⟩
    exact ⟨v, rfl, fin_new hp hbl hN (by simpa using hcu) hnr' hlen'⟩
  · rw [hbl] at hb1
    cases hb1
    simp only at hb2 hb4
    subst hb2
    obtain ⟨cur, e', rfl', hg, hsz, hco⟩ := cells_of_obj hp (id := 0) (els := els) (z := 4) (off := 0) (n := n) rfl hbl (by omega)
    simp only [Nat.zero_mul, Nat.add_zero, List.drop_zero] at hco
    rw [List.take_of_length_le (by omega)] at hco
    have hcs : k = cur.size := by
      rw [hg.shape] at hsh
      simp only [Option.some.injEq, Prod.mk.injEq] at hsh
      exact hsh.2.symm
    subst hcs
    obtain ⟨hbb1, hbb2, hbb3⟩ := hp.heap.own 0 _ b hbl rfl
    have hne : vb ≠ b := fun e => hbb2 (e ▸ hIv)
    have hcells : CellsOf w I bl 4 (els.take i ++ [x] ++ els.drop i) (((cur.toList.drop base).take (n * 4)).take (i * 4) ++ us ++ ((cur.toList.drop base).take (n * 4)).drop (i * 4)) := ((hco.take i (by omega)).append hcu).append (hco.drop i)
    simp only [Nat.zero_mul, Nat.add_zero, Nat.zero_add] at hfit ⊢
    obtain ⟨fz, hfz, hgh⟩ := hg
    have hfz0 : fz = (0, 0) := hfz.elim id (fun h => absurd h.1 (by decide))
    subst hfz0
    have hg : CellsAt 4 w b cur e' := CellsAt.of hgh
    by_cases hroom : n + 1 ≤ c
    · by_cases hin : i < n
      · obtain ⟨tV, kV, hsv, hkV, _⟩ := World.shape?_of_cell? (hus 0 _ (List.getElem?_eq_getElem (by omega)))
        refine (ins_mid b base n c i vb voff vc cur e' tV kV us w hin hroom (by simp only [maxLen] at hcm; omega) hgh (by omega) hne hco.2.1 hsv (by simp at hkV; omega) hul hus hcu.2.1).mono ?_
        rintro e w' ⟨rfl, rfl⟩
        have hl2 : (ins2 cur.toList (base + i * 4) us ((n - i) * 4)).length = cur.size := by rw [ins2_len (by simp; omega)]; simp
        exact ⟨_, rfl, fin_row hp.drew hbl (hg.heap rfl) _ hl2 (hcells.later ⟨fun _ _ => rfl, fun _ _ h => h⟩ (fun _ h => h) (fun _ _ h => h)) hnr' hlen' hroom hcm (by omega) (ins2_cells hul (by omega) (by simp; omega))⟩
      · obtain rfl : i = n := by omega
        refine (ins_end_room b base i c vb voff vc cur e' us w hroom (by simp only [maxLen] at hcm; omega) hgh (by omega) hul hus hcu.2.1).mono ?_
        rintro e w' ⟨rfl, rfl⟩
        refine ⟨_, rfl, fin_row hp hbl hg _ (by simp; omega) hcells hnr' hlen' hroom hcm (by omega) ?_⟩
        apply List.ext_getElem?
        intro p
        rw [List.getElem?_take, List.getElem?_drop]
        by_cases h0 : p < (i + 1) * 4
        · rw [if_pos h0]
          by_cases h1 : p < i * 4
          · rw [List.append_assoc, List.getElem?_append_left (by simp; omega), List.getElem?_take, if_pos (by omega), List.append_assoc, List.getElem?_append_left (by simp; omega), List.getElem?_take, if_pos h1, List.getElem?_take, if_pos h1, List.getElem?_drop]
          · rw [List.append_assoc, List.getElem?_append_right (by simp; omega), List.getElem?_append_left (by simp; omega), List.append_assoc, List.getElem?_append_right (by simp; omega), List.getElem?_append_left (by simp; omega)]
            congr 1
            simp
            omega
        · rw [if_neg h0, List.getElem?_eq_none]
          simp
          omega
    · have hcn : c = n := by omega
      subst hcn
      by_cases hin : i < c
      · refine (ins_grow b base c i vb voff vc cur e' us w hin hbig hgh (by omega) hco.2.1 hvlt hul hus hcu.2.1).mono ?_
        rintro e w' ⟨v, rfl, hN⟩
        exact ⟨v, rfl, fin_new hp hbl hN hcells hnr' hlen'⟩
      · obtain rfl : i = c := by omega
        have hcl : ((cur.toList.drop base).take (i * 4)).length = i * 4 := by simp; omega
        refine (ins_end_grow (some ⟨b, base, none⟩) i i vb voff vc ((cur.toList.drop base).take (i * 4)) us w (Nat.le_refl _) (by omega) hbig (run_firstCells_some (P := Try.prog) w.drew 4 i ⟨b, base, none⟩ i i _ hcl (fun j v hj => ?_)) hcl (fun h => by cases h) hul hus hcu.2.1).mono ?_
        · have hjl := (List.getElem?_eq_some_iff.1 hj).1
          rw [List.getElem?_take, if_pos (by omega), List.getElem?_drop] at hj
          rw [Addr.add_lit, Lib.cell_of_heap (w := w.drew) hgh]
          simpa using hj
        · rintro e w' ⟨v, rfl, hN⟩
          refine ⟨v, rfl, fin_new hp hbl hN ?_ hnr' hlen'⟩
          have e1 : els.take i ++ [x] ++ els.drop i = els ++ [x] := by rw [List.take_of_length_le (by omega), List.drop_of_length_le (by omega), List.append_nil]
          rw [e1]
          exact hco.append hcu
set_option maxHeartbeats 4000000 in
theorem h_delete (els : List V) (n i : Nat) (hn : els.length = n) (hi : i < n) (hnr : nrL els) :
    HFn Try.prog 40 [.sl 0 0 n, .int .i64 i, .int .i64 ((i : Int) + 1)] [.row 4 els] [] (fun r o => r = .sl 0 0 (n - 1) ∧ o = [.row 4 (els.take i ++ els.drop (i + 1))]) := by
  intro w I bl vs hl hv hH
  obtain ⟨v0, v1, v2, rfl⟩ : ∃ v0 v1 v2, vs = [v0, v1, v2] := by
    match vs, hl with
    | [a, b, c], _ => exact ⟨a, b, c, rfl⟩
  have h0 := hv 0 v0 _ rfl rfl
  obtain rfl := (hv 1 v1 _ rfl rfl).inv_int
  obtain rfl := (hv 2 v2 _ rfl rfl).inv_int
  have hp : RP ⟨Try.prog, w, blocksOf bl, I⟩ ⟨[], [some (.row 4 els)]⟩ ⟨#[], []⟩ w I bl := ⟨rfl, ⟨rfl, fun i v x h _ => by simp at h⟩, hH⟩
  have hnr' : nrL (els.take i ++ els.drop (i + 1)) := nrL_app (nrL_take hnr i) (nrL_drop hnr (i + 1))
  have hlen' : (els.take i ++ els.drop (i + 1)).length = n - 1 := by simp; omega
  refine (Calls.mono ?_ fun e w' (h : ∃ v, e = .returned v ∧ PostR ⟨Try.prog, w, blocksOf bl, I⟩ (els.take i ++ els.drop (i + 1)) (n - 1) v w') => ?_)
  rotate_left
  · obtain ⟨v, rfl, I', bl', h1, h2⟩ := h
    exact ⟨v, _, _, I', bl', rfl, ⟨rfl, rfl⟩, rfl, h1, h2, fun j hj => by cases hj⟩
  obtain ⟨bi, hb1, hb2, hb3, hb4⟩ := hp.heap.obj 0 _ rfl
  rcases h0.inv_sl with ⟨base, z, hbl, _, hl0, rfl⟩ | ⟨a, i0, hbl, hl0, rfl⟩ | ⟨c, b, base, z, k, e, hbl, hsh, hfit, hnc, hcm, rfl⟩
  · omega
  · omega
  · rw [hbl] at hb1
    cases hb1
    simp only at hb2 hb4
    subst hb2
    obtain ⟨cur, e', rfl', hg, hsz, hco⟩ := cells_of_obj hp (id := 0) (els := els) (z := 4) (off := 0) (n := n) rfl hbl (by omega)
    simp only [Nat.zero_mul, Nat.add_zero, List.drop_zero] at hco
    rw [List.take_of_length_le (by omega)] at hco
    have hcs : k = cur.size := by
      rw [hg.shape] at hsh
      simp only [Option.some.injEq, Prod.mk.injEq] at hsh
      exact hsh.2.symm
    subst hcs
    have hcells := (hco.take i (by omega)).append (hco.drop (i + 1))
    simp only [Nat.zero_mul, Nat.add_zero, Nat.zero_add] at hfit ⊢
    obtain ⟨fz, hfz, hgh⟩ := hg
    have hfz0 : fz = (0, 0) := hfz.elim id (fun h => absurd h.1 (by decide))
    subst hfz0
    have hg : CellsAt 4 w b cur e' := CellsAt.of hgh
    refine (del_run b base n c i cur e' w hi hnc (by simp only [maxLen] at hcm; omega) hgh (by omega) hco.2.1).mono ?_
    rintro e w' ⟨rfl, rfl⟩
    have hl2 : (del2 cur.toList base i n).length = cur.size := by rw [del2_len hi (by simp; omega)]; simp
    exact ⟨_, rfl, fin_row hp.drew hbl (hg.heap rfl) _ hl2 (hcells.later ⟨fun _ _ => rfl, fun _ _ h => h⟩ (fun _ h => h) (fun _ _ h => h)) hnr' hlen' (by omega) hcm (by omega) (del2_cells hi (by simp; omega))⟩
end Go.Proofs.Ytkkcmobnhiiacaa
