/- Rows of rows of the call's own, any number of them: the heap's tail is a list of rows. No conditions. -/
import Derived.Test.YtmjglpdfkkmcoaaOwn
import Derived.Test.YtmjglpdfkkmcoaaData
set_option linter.unusedSimpArgs false
set_option linter.unusedVariables false
set_option maxRecDepth 100000
namespace Go.Proofs.Ytmjglpdfkkmcoaa
open Go.RowKit

section
variable {C : Ctx} {K : ES → Prop}
theorem fH_go {h : List (Option Ob)} {K : List (Option Ob) → Prop} (hk : K h) : fH h K := by rw [fH_eq]; exact hk
/-- A spare place at the heap's end. -/
theorem up_long {n : Nat} {u : List (Nat × V)} {h : List (Option Ob)} (hk : UpE C K ⟨n, u, h ++ [none]⟩) : UpE C K ⟨n, u, h⟩ := by
  have key : ∀ (id : Nat) (o : Ob), (h ++ [none])[id]? = some (some o) ↔ h[id]? = some (some o) := fun id o => by
    rw [List.getElem?_append]
    split
    · exact Iff.rfl
    · rename_i hi
      constructor
      · intro e
        match hj : id - h.length with
        | 0 => rw [hj] at e; cases e
        | j + 1 => rw [hj] at e; simp at e
      · intro e
        exact absurd (List.getElem?_eq_some_iff.1 e).1 hi
  refine ⟨up_of_rel (fun a w hr => ?_) hk.out⟩
  obtain ⟨I, bl, hp⟩ := hr.parts
  refine RP.rel (I := I) (bl := bl) ⟨hp.defers, hp.env, ⟨fun id o ho => hp.heap.obj id o ((key id o).1 ho), fun id i hi => ?_, hp.heap.apart, hp.heap.own, hp.heap.imm, hp.heap.kept⟩⟩
  obtain ⟨o, ho⟩ := hp.heap.live id i hi
  exact ⟨o, (key id o).2 ho⟩
/-- A slice of a row, the row read as it will be. -/
theorem sl_pr {w : World} {I I' : Nat → Prop} {bl : Nat → Option BI} {v : Value} {id z : Nat} {els els' : List V} (ho : ObRep w I bl id (.row z els)) (hown : ∀ i b, bl id = some i → i.blk = some b → I' b) (hlen : els'.length = els.length)
    (hc : ∀ (i : Nat) (x x' : V), els[i]? = some x → els'[i]? = some x' → x'.cells.length = x.cells.length ∧ ∀ (j : Nat) (c c' : V) (u : Value), x.cells[j]? = some c → x'.cells[j]? = some c' → Rep w I bl u c → Pr w I' u c') (h : Rep w I bl v (.sl id 0 els.length)) : Pr w I' v (.lst els') := by
  rcases h.inv_sl with ⟨base, z', h1, _, h5, rfl⟩ | ⟨a', i', h1, h5, rfl⟩ | ⟨cap, b, base, z', n, e', h1, h2, h3, h4, h5, rfl⟩
  · rw [h5] at hlen
    obtain rfl : els' = [] := List.eq_nil_of_length_eq_zero hlen
    exact .lnil none 0
  · rw [h5] at hlen
    obtain rfl : els' = [] := List.eq_nil_of_length_eq_zero hlen
    exact .lnil _ 0
  · obtain ⟨bi, g1, g2, g3, g4⟩ := ho
    rw [h1] at g1
    simp only [Option.some.injEq] at g1
    subst g1
    simp only at g2 g4
    subst g2
    obtain ⟨cur, e2, hg, hsz, hcc⟩ := g4
    rw [← hlen]
    have hx : ∀ (i : Nat) (x' : V), els'[i]? = some x' → ∃ x, els[i]? = some x := fun i x' hi => ⟨_, List.getElem?_eq_getElem (by rw [← hlen]; exact (List.getElem?_eq_some_iff.1 hi).1)⟩
    refine .lst b (base + 0 * z') cap z' els' (fun i j => if i * z' + j < els.length * z' then (cur[base + i * z' + j]?).getD (.int .i64 0) else .int .i64 0) (hown _ _ h1 rfl) (by omega) h5 (fun i x' hi => ?_) (fun i j hi hj => ?_) (fun i j => ?_) (fun i x' j c' hi hj => ?_)
    · obtain ⟨x, hx⟩ := hx i x' hi
      rw [(hc i x x' hx hi).1]
      exact g3 i x hx
    · have hil : i < els.length := by omega
      have hm : (i + 1) * z' ≤ els.length * z' := Nat.mul_le_mul_right _ hil
      rw [Nat.add_mul, Nat.one_mul] at hm
      rw [hg.cell, if_pos (by omega), Nat.zero_mul, Nat.add_zero]
      have hlt : base + i * z' + j < cur.size := by omega
      rw [Array.getElem?_eq_getElem hlt]
      rfl
    · split
      · rename_i hij
        have hz : 0 < z' := by
          rcases Nat.eq_zero_or_pos z' with h0 | h0
          · subst h0; omega
          · exact h0
        have hq : (i * z' + j) / z' < els.length := (Nat.div_lt_iff_lt_mul hz).2 hij
        obtain ⟨x, hx⟩ : ∃ x, els[(i * z' + j) / z']? = some x := ⟨_, List.getElem?_eq_getElem hq⟩
        obtain ⟨c, hcx⟩ : ∃ c, x.cells[(i * z' + j) % z']? = some c := ⟨_, List.getElem?_eq_getElem (by rw [g3 _ x hx]; exact Nat.mod_lt _ hz)⟩
        obtain ⟨u, hu, hu1, _⟩ := hcc _ x _ c hx hcx
        have : base + (i * z' + j) / z' * z' + (i * z' + j) % z' = base + i * z' + j := by
          have := Nat.div_add_mod' (i * z' + j) z'
          omega
        rw [this] at hu
        rw [hu]
        exact hu1
      · rfl
    · obtain ⟨x, hxi⟩ := hx i x' hi
      obtain ⟨hl, hr⟩ := hc i x x' hxi hi
      have hj' : j < x.cells.length := by rw [← hl]; exact (List.getElem?_eq_some_iff.1 hj).1
      obtain ⟨c, hcx⟩ : ∃ c, x.cells[j]? = some c := ⟨_, List.getElem?_eq_getElem hj'⟩
      obtain ⟨u, hu, _, hur⟩ := hcc i x j c hxi hcx
      have hil : i < els.length := (List.getElem?_eq_some_iff.1 hxi).1
      have hm : (i + 1) * z' ≤ els.length * z' := Nat.mul_le_mul_right _ hil
      rw [Nat.add_mul, Nat.one_mul] at hm
      have hjz : j < z' := by rw [← g3 i x hxi]; exact hj'
      rw [if_pos (by omega), hu]
      exact hr j c c' u hcx hj hur
/-- Slices of the call's own rows from place p on, in their order. -/
def slsV (p m : Nat) (n : Nat) : List V := (List.range n).map fun j => V.sl (j + p) 0 m
/-- Rows of rows, the heap's tail: all is frozen. -/
theorem up_rows (t q : Nat) (pre : List (Option Ob)) {n m : Nat} {u : List (Nat × V)} (D : List (List V)) (hq : pre[q]? = some (some (.row 1 (slsV pre.length m D.length)))) (hD : ∀ r ∈ D, r.length = m ∧ nrL r ∧ ∀ x ∈ r, x.cells.length = 1)
    (ht : lookU u t = .sl q 0 D.length) (hk : UpE C K ⟨n, [(t, .lst (D.map V.lst))], []⟩) : UpE C K ⟨n, u, pre ++ D.map fun r => some (.row 1 r)⟩ := by
  refine up_to' [t] ?_
  refine ⟨up_of_rel (fun a w hr => ?_) hk.out⟩
  obtain ⟨I, bl, hp⟩ := hr.parts
  let I' : Nat → Prop := fun b => I b ∨ ∃ id i, bl id = some i ∧ i.blk = some b
  have hown : ∀ id i b, bl id = some i → i.blk = some b → I' b := fun id i b h1 h2 => .inr ⟨id, i, h1, h2⟩
  have hpq : ((pre ++ D.map fun r => some (Ob.row 1 r)) : List (Option Ob))[q]? = some (some (.row 1 (slsV pre.length m D.length))) := by
    rw [List.getElem?_append_left (List.getElem?_eq_some_iff.1 hq).1]; exact hq
  have hin : ∀ (j : Nat) (r : List V) (v : Value), D[j]? = some r → Rep w I bl v (.sl (j + pre.length) 0 m) → Pr w I' v (.lst r) := by
    intro j r v hj hv
    obtain ⟨hm, hnr, hc1⟩ := hD r (List.mem_of_getElem? hj)
    have hob : ((pre ++ D.map fun r => some (Ob.row 1 r)) : List (Option Ob))[j + pre.length]? = some (some (.row 1 r)) := by
      rw [List.getElem?_append_right (by omega), Nat.add_sub_cancel, List.getElem?_map, hj]; rfl
    rw [← hm] at hv
    refine sl_pr (hp.heap.obj _ _ hob) (fun i b h1 h2 => hown _ i b h1 h2) rfl (fun i x x' h1 h2 => ?_) hv
    rw [h1] at h2
    cases h2
    refine ⟨rfl, fun j c c' u h3 h4 hu => ?_⟩
    rw [h3] at h4
    cases h4
    exact (hu.pr (nr_cells (nrL_get r i x hnr h1) j c h3)).later (fun _ _ => rfl) (fun b h => .inl h)
  refine RP.rel (I := I') (bl := fun _ => none) ⟨hp.defers, ⟨by have := hp.env.1; simpa [ES.st, ES.env] using this, fun i v x hv hx => ?_⟩, ⟨?_, ?_, ?_, ?_, ?_, hp.heap.kept⟩⟩
  · have hx' : (ES.env ⟨n, keepU [t] u, pre ++ D.map fun r => some (.row 1 r)⟩)[i]? = some (if i = t then .sl q 0 D.length else .any) ∧ x = if i = t then .lst (D.map V.lst) else .any := by
      have hx : (ES.env ⟨n, [(t, .lst (D.map V.lst))], []⟩)[i]? = some x := hx
      unfold ES.env at hx ⊢
      rw [List.getElem?_map, Option.map_eq_some_iff] at hx
      obtain ⟨s, hs, rfl⟩ := hx
      rw [List.getElem?_map, hs]
      have hsi : s = i := by
        have := (List.getElem?_eq_some_iff.1 hs)
        simpa using this.2.symm
      subst hsi
      have e : keepU [t] u = [(t, .sl q 0 D.length)] := by simp [keepU, ht]
      rw [e]
      by_cases est : s = t
      · subst est
        simp [lookU]
      · have hb : Nat.beq s t = false := by cases hb : Nat.beq s t with
          | false => rfl
          | true => exact absurd (Nat.eq_of_beq_eq_true hb) est
        simp [lookU, hb, est]
    obtain ⟨h1, rfl⟩ := hx'
    have hrep := hp.env.2 i v _ hv h1
    split
    · rename_i e
      rw [if_pos e] at hrep
      have hl : (slsV pre.length m D.length).length = D.length := by simp [slsV]
      refine .pure _ _ (sl_pr (els := slsV pre.length m D.length) (hp.heap.obj _ _ hpq) (fun i b h1 h2 => hown _ i b h1 h2) (by simp [hl]) (fun j x x' g1 g2 => ?_) (by rw [hl]; exact hrep))
      obtain ⟨r, hr1⟩ : ∃ r, D[j]? = some r := ⟨_, List.getElem?_eq_getElem (by have := (List.getElem?_eq_some_iff.1 g1).1; omega)⟩
      rw [List.getElem?_map, hr1] at g2
      cases g2
      have : x = .sl (j + pre.length) 0 m := by
        unfold slsV at g1
        rw [List.getElem?_map, List.getElem?_range (by have := (List.getElem?_eq_some_iff.1 hr1).1; exact this)] at g1
        simpa using g1.symm
      subst this
      refine ⟨rfl, fun k c c' u g3 g4 hu => ?_⟩
      match k with
      | 0 =>
        simp only [V.cells, List.getElem?_cons_zero, Option.some.injEq] at g3 g4
        subst g3; subst g4
        exact hin j r u hr1 hu
      | k + 1 => simp [V.cells] at g3
    · exact .pure _ _ (.any _)
  · intro id o ho; simp [ES.st] at ho
  · intro id i hi; cases hi
  · intro id id' i i' b hi; cases hi
  · intro id i b hi; cases hi
  · intro k hk
    rcases hk with hk | ⟨id, i, h1, h2⟩
    · exact hp.heap.imm k hk
    · obtain ⟨h3, _, h5⟩ := hp.heap.own id i k h1 h2
      exact ⟨h3, .inr h5⟩
theorem up_rowsE (t q : Nat) (pre : List (Option Ob)) {n m : Nat} {u : List (Nat × V)} {h : List (Option Ob)} (D : List (List V)) (he : h = pre ++ D.map fun r => some (.row 1 r)) (hq : pre[q]? = some (some (.row 1 (slsV pre.length m D.length)))) (hD : ∀ r ∈ D, r.length = m ∧ nrL r ∧ ∀ x ∈ r, x.cells.length = 1)
    (ht : lookU u t = .sl q 0 D.length) (hk : UpE C K ⟨n, [(t, .lst (D.map V.lst))], []⟩) : UpE C K ⟨n, u, h⟩ := by
  subst he
  exact up_rows t q pre D hq hD ht hk
end
end Go.Proofs.Ytmjglpdfkkmcoaa
