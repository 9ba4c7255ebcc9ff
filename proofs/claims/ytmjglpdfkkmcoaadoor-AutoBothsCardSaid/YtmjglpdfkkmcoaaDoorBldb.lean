/- A builder's buffer: appending bytes, as the world sees it. No conditions. -/
import Derived.Test.YtmjglpdfkkmcoaaDoorAwx
import Derived.Lib.Builder
import Derived.Lib.AppendStr
import Derived.Lib.UnsafeStr
set_option linter.unusedSimpArgs false
set_option linter.unusedVariables false
set_option maxRecDepth 100000
namespace Go.Proofs.YtmjglpdfkkmcoaaDoor
open Go.RowKit

def byv (c : UInt8) : Value := .int .u8 c.toNat
/-- The slice v holds the bytes s in a row of its own (of U), or is nil and holds none. -/
def BufIs (U : TypeId) (w : World) (v : Value) (s : List UInt8) : Prop :=
  (v = .slice none 0 0 ∧ s = []) ∨ ∃ g cap cur, v = .slice (some ⟨g, 0, none⟩) s.length cap ∧ s ≠ [] ∧ w.heap[g]? = some (.cells cur U (0, 0)) ∧ s.length ≤ cap ∧ cap ≤ maxLen ∧ cap ≤ cur.size ∧
    ∀ (i : Nat) (x : UInt8), s[i]? = some x → cur[i]? = some (byv x)
/-- What turns when the buffer v becomes v': its own row alone; a new row is a new block. -/
structure BFrame (w w' : World) (v v' : Value) : Prop where
  os : w'.os = w.os
  tape : w'.tape = w.tape
  output : w'.output = w.output
  size : w.heap.size ≤ w'.heap.size
  block : ∀ k, k < w.heap.size → v.ownBlock ≠ some k → w'.heap[k]? = w.heap[k]?
  shape : ∀ b s, w.shape? b = some s → w'.shape? b = some s
  own : ∀ g, v'.ownBlock = some g → v.ownBlock = some g ∨ (w.heap.size ≤ g ∧ g < w'.heap.size)

theorem buf_cells {U : TypeId} {w : World} {v : Value} {s : List UInt8} (h : BufIs U w v s) : ∃ a cap, v = .slice a s.length cap := by
  rcases h with ⟨rfl, rfl⟩ | ⟨g, cap, cur, rfl, _⟩
  · exact ⟨_, _, rfl⟩
  · exact ⟨_, _, rfl⟩

theorem buf_append {P : Program} {t t' ty U : TypeId} {i : TypeInfo} {zv : Value} (w : World) (ht : P.underlying t = some (.slice U)) (hi : P.info? U = some i) (hiz : i.size = 1) (hz : i.zero = some zv) (hzs : zv.cells.size = 1) (hby : i.bytes = 1) (ht' : notInt P t' = true)
    {v x : Value} {s news : List UInt8} (hv : BufIs U w v s) (hlen : ∀ w', (Builtin.lenOf x).run P w' = .ok (news.length : Nat) w') (hf : ∀ w', w'.heap = w.heap → (Builtin.firstCells 1 news.length x).run P w' = .ok (news.map byv).toArray w')
    (hb : s.length + news.length ≤ 140737488355328) :
    ∃ v' w', (Builtin.append_ #[t, t'] ty #[v, x]).run P w = .ok v' w' ∧ BufIs U w' v' (s ++ news) ∧ BFrame w w' v v' := by
  have hmax : s.length + news.length ≤ maxLen := by simp only [maxLen]; omega
  have h1 : ∀ u ∈ news.map byv, u.oneCell' = true := by
    intro u hu
    obtain ⟨c, _, rfl⟩ := List.mem_map.1 hu
    rfl
  have grow : ∀ (base : Option Addr) (cap : Nat) (olds : List Value), v = .slice base s.length cap → olds = s.map byv → (Builtin.firstCells 1 s.length (.slice base s.length cap)).run P w.drew = .ok olds.toArray w.drew → cap < s.length + news.length →
      ∃ v' w', (Builtin.append_ #[t, t'] ty #[v, x]).run P w = .ok v' w' ∧ BufIs U w' v' (s ++ news) ∧ BFrame w w' v v' := by
    intro base cap olds hvv holds hf0 hlt
    have hr := run_append_grow' (P := P) (t := t) (t' := t') (ty := ty) (z := 1) w ht hi hiz hz ht' hf0 hlen (hf w.drew rfl) hlt hmax (by rw [hby]; omega)
    have hge := grownCap_ge w (s.length + news.length) cap U
    have hcm := grownCap_le_maxLen w (s.length + news.length) cap U hmax
    refine ⟨_, _, by rw [hvv]; exact hr, .inr ⟨w.heap.size, grownCap w (s.length + news.length) cap U, _, by rw [List.length_append], ?_, heap_alloc_new w.drew _, by rw [List.length_append]; exact hge, hcm, ?_, ?_⟩, ?_⟩
    · intro e
      have : (s ++ news).length = 0 := by rw [e]; rfl
      rw [List.length_append] at this
      omega
    · simp only [Array.size_append, List.size_toArray, holds, List.length_map, size_zeroCells, hzs]
      omega
    · intro j y hy
      have hj : j < (s ++ news).length := (List.getElem?_eq_some_iff.1 hy).1
      have e1 : olds.toArray ++ (news.map byv).toArray ++ Builtin.zeroCells zv.cells (grownCap w (s.length + news.length) cap U - (s.length + news.length)) = ((s ++ news).map byv).toArray ++ Builtin.zeroCells zv.cells (grownCap w (s.length + news.length) cap U - (s.length + news.length)) := by
        rw [holds]; simp
      rw [e1, Array.getElem?_append_left (by simpa using hj)]
      simp only [List.getElem?_toArray, List.getElem?_map, hy, Option.map_some]
    · have hl := later_alloc (fun _ => False) w.drew (.cells (olds.toArray ++ (news.map byv).toArray ++ Builtin.zeroCells zv.cells (grownCap w (s.length + news.length) cap U - (s.length + news.length))) U) (fun b hb => hb.elim)
      refine ⟨rfl, rfl, rfl, by simp, fun k hk _ => heap_alloc_was w.drew _ k hk, fun b s hs => hl.shape b s hs, fun g hg => .inr ?_⟩
      simp only [Value.ownBlock, Option.some.injEq] at hg
      subst hg
      exact ⟨Nat.le_refl _, by simp⟩
  rcases hv with ⟨rfl, rfl⟩ | ⟨g, cap, cur, rfl, hne, hg, hlc, hcm, hcs, hcell⟩
  · by_cases h0 : news = []
    · subst h0
      exact ⟨_, _, run_append_nothing w ht hi ht' hlen (by rw [hiz]; exact hf w rfl), .inl ⟨rfl, rfl⟩, ⟨rfl, rfl, rfl, Nat.le_refl _, fun _ _ _ => rfl, fun _ _ h => h, fun g hg => .inl hg⟩⟩
    · have : 0 < news.length := List.length_pos_iff.2 h0
      exact grow none 0 [] rfl rfl (by simp [Builtin.firstCells]) (by simp; omega)
  · by_cases hroom : s.length + news.length ≤ cap
    · have hfit : 0 + s.length * 1 + (news.map byv).length ≤ cur.size := by simp; omega
      have hr := run_append_room' (P := P) (t := t) (t' := t') (ty := ty) (z := 1) w ht hi hiz ht' (.of hg) hlen (hf w rfl) h1 hroom hfit
      have hsame : (cur.toList.take (0 + s.length * 1) ++ news.map byv ++ cur.toList.drop (0 + s.length * 1 + (news.map byv).length)).toArray.size = cur.size := by
        simp only [List.size_toArray, List.length_append, List.length_take, List.length_drop, Array.length_toList, List.length_map] at hfit ⊢
        omega
      refine ⟨_, _, hr, .inr ⟨g, cap, _, by rw [List.length_append], by simp [hne], setRow_heap w g cur _ U _ hg, by rw [List.length_append]; exact hroom, hcm, by rw [hsame]; exact hcs, ?_⟩, ?_⟩
      · intro j y hy
        rw [List.getElem?_toArray, mid_get _ _ _ _ (by simpa using hfit)]
        rw [List.getElem?_append] at hy
        simp only [Nat.zero_add, Nat.mul_one, List.length_map]
        by_cases hj : j < s.length
        · rw [if_pos hj] at hy ⊢
          rw [Array.getElem?_toList]
          exact hcell j y hy
        · rw [if_neg hj] at hy ⊢
          have : j - s.length < news.length := (List.getElem?_eq_some_iff.1 hy).1
          rw [if_pos (by omega), List.getElem?_map, hy]
          rfl
      · have hl := later_setRow (I := fun _ => False) hg hsame (fun h => h)
        refine ⟨rfl, rfl, rfl, by rw [size_setRow]; exact Nat.le_refl _, fun k hk hn => setRow_other w g k _ (fun e => hn (by simp [Value.ownBlock, e])), fun b s hs => hl.shape b s hs, fun g' hg' => .inl ?_⟩
        simpa [Value.ownBlock] using hg'
    · refine grow _ cap (s.map byv) rfl rfl (run_firstCells_some (P := P) w.drew 1 s.length ⟨g, 0, none⟩ s.length cap (s.map byv) (by simp) (fun j u hj => ?_)) (by omega)
      rw [Addr.add_lit]
      show w.cell? _ = _
      rw [cell_of_row w g _ cur U (0, 0) hg, Nat.zero_add]
      rw [List.getElem?_map, Option.map_eq_some_iff] at hj
      obtain ⟨y, hy, rfl⟩ := hj
      exact hcell j y hy

theorem wpList_buf {P : Program} {ops : Array Oper} {rest : List Oper} {o : Oper} {a : Act} {Q : Exit → Act → World → Prop} (w : World) (hgd : o.guard = none) (sl x : Operand) (t t' : TypeId)
    (ho : o.op = .call { callee := .builtin .append, args := #[sl, x], argTypes := #[t, t'] })
    {U : TypeId} {i : TypeInfo} {zv : Value} (ht : P.underlying t = some (.slice U)) (hi : P.info? U = some i) (hiz : i.size = 1) (hz : i.zero = some zv) (hzs : zv.cells.size = 1) (hby : i.bytes = 1) (ht' : notInt P t' = true)
    (v : Value) (s news : List UInt8) (hs : a.eval sl = v) (hv : BufIs U w v s) (hlen : ∀ w', (Builtin.lenOf (a.eval x)).run P w' = .ok (news.length : Nat) w') (hf : ∀ w', w'.heap = w.heap → (Builtin.firstCells 1 news.length (a.eval x)).run P w' = .ok (news.map byv).toArray w')
    (hb : s.length + news.length ≤ 140737488355328)
    (h : ∀ v' w', BufIs U w' v' (s ++ news) → BFrame w w' v v' → wpList P ops Q rest (a.put o.dst v') w') : wpList P ops Q (o :: rest) a w := by
  refine wpList_plain hgd fun K hK => ?_
  obtain ⟨v', w', hr, h2, h3⟩ := buf_append (P := P) (t := t) (t' := t') (ty := o.type) w ht hi hiz hz hzs hby ht' hv hlen hf hb
  unfold Oper.wp execOp
  simp only [ho, resolve, invoke, builtin, Sem.run_bind, Sem.run_pure, Result.andThen_ok, List.map_toArray, List.map_cons, List.map_nil, hs, hr]
  exact hK _ _ (h v' w' h2 h3)

/-- A builder's two objects, turned. -/
theorem heap2 {P : Program} {w w' : World} {I : Nat → Prop} {bl : Nat → Option BI} {o0 o1 o0' o1' : Ob} (hH : HeapRep ⟨P, w, blocksOf bl, I⟩ [some o0, some o1] w I bl) {b : Nat} (h0 : bl 0 = some ⟨some b, 0, 2⟩) {g0 g1 : Option Nat} (h1 : bl 1 = some ⟨g0, 0, 1⟩)
    (hos : w'.os = w.os) (htape : w'.tape = w.tape) (hout : w'.output = w.output) (hsize : w.heap.size ≤ w'.heap.size) (hblock : ∀ k, k < w.heap.size → k ≠ b → g0 ≠ some k → w'.heap[k]? = w.heap[k]?) (hshape : ∀ b s, w.shape? b = some s → w'.shape? b = some s)
    (hown : ∀ g, g1 = some g → g0 = some g ∨ (w.heap.size ≤ g ∧ g < w'.heap.size))
    (r0 : ObRep w' I (upd bl 1 ⟨g1, 0, 1⟩) 0 o0') (r1 : ObRep w' I (upd bl 1 ⟨g1, 0, 1⟩) 1 o1') : HeapRep ⟨P, w, blocksOf bl, I⟩ [some o0', some o1'] w' I (upd bl 1 ⟨g1, 0, 1⟩) := by
  have two : ∀ id i, bl id = some i → id = 0 ∨ id = 1 := by
    intro id i h
    obtain ⟨o, ho⟩ := hH.live id i h
    have := (List.getElem?_eq_some_iff.1 ho).1
    simp at this
    omega
  have hb := hH.own 0 _ b h0 rfl
  have hu0 : upd bl 1 (⟨g1, 0, 1⟩ : BI) 0 = some ⟨some b, 0, 2⟩ := by rw [upd_other (by decide)]; exact h0
  have hu1 : upd bl 1 (⟨g1, 0, 1⟩ : BI) 1 = some ⟨g1, 0, 1⟩ := upd_same _ _ _
  have hE : ∀ k, k < w.heap.size → ¬ blocksOf bl k → w'.heap[k]? = w.heap[k]? := by
    intro k hk hn
    refine hblock k hk (fun e => hn ⟨0, _, h0, by rw [e]⟩) (fun e => hn ⟨1, _, h1, e⟩)
  have gne : ∀ g, g1 = some g → g ≠ b := by
    intro g hg e
    rcases hown g hg with h | h
    · subst e
      have := hH.apart 0 1 _ _ g h0 h1 rfl h
      omega
    · have := hb.1; omega
  have cases2 : ∀ id i, upd bl 1 (⟨g1, 0, 1⟩ : BI) id = some i → (id = 0 ∧ i = ⟨some b, 0, 2⟩) ∨ (id = 1 ∧ i = ⟨g1, 0, 1⟩) := by
    intro id i h
    by_cases e : id = 1
    · subst e; rw [hu1] at h; exact .inr ⟨rfl, (Option.some.inj h).symm⟩
    · rw [upd_other e] at h
      rcases two id i h with e' | e'
      · subst e'; rw [h0] at h; exact .inl ⟨rfl, (Option.some.inj h).symm⟩
      · exact absurd e' e
  refine ⟨fun id o ho => ?_, fun id i hi => ?_, fun id id' i i' c h2 h3 h4 h5 => ?_, fun id i c h2 h3 => ?_, fun k hk => ?_, ⟨hos, htape, hout, hsize, hE, hshape⟩⟩
  · match id, ho with
    | 0, ho => simp at ho; subst ho; exact r0
    | 1, ho => simp at ho; subst ho; exact r1
    | n + 2, ho => simp at ho
  · rcases cases2 id i hi with ⟨rfl, _⟩ | ⟨rfl, _⟩
    · exact ⟨_, rfl⟩
    · exact ⟨_, rfl⟩
  · rcases cases2 id i h2 with ⟨rfl, rfl⟩ | ⟨rfl, rfl⟩ <;> rcases cases2 id' i' h3 with ⟨rfl, rfl⟩ | ⟨rfl, rfl⟩
    · rfl
    · simp at h4; subst h4; exact absurd rfl (gne _ h5)
    · simp at h5; subst h5; exact absurd rfl (gne _ h4)
    · rfl
  · rcases cases2 id i h2 with ⟨rfl, rfl⟩ | ⟨rfl, rfl⟩
    · simp at h3; subst h3
      exact ⟨Nat.lt_of_lt_of_le hb.1 hsize, hb.2.1, .inl ⟨0, _, h0, rfl⟩⟩
    · rcases hown c h3 with h | h
      · have := hH.own 1 _ c h1 h
        exact ⟨Nat.lt_of_lt_of_le this.1 hsize, this.2.1, .inl ⟨1, _, h1, h⟩⟩
      · refine ⟨h.2, fun hI => ?_, .inr h.1⟩
        have := (hH.imm c hI).1
        omega
  · have := hH.imm k hk
    exact ⟨Nat.lt_of_lt_of_le this.1 hsize, .inl hk⟩

/-- The buffer's slice, as the objects tell it. -/
def bufV (q : Nat) (s : List UInt8) : V := yV (some (q, s.length))
theorem buf_of {U : TypeId} {w : World} {I : Nat → Prop} {bl : Nat → Option BI} {v : Value} {s : List UInt8} (hr : Rep w I bl v (bufV 1 s)) (h1 : ObRep w I bl 1 (.buf U s)) : BufIs U w v s ∧ ∃ g0, bl 1 = some ⟨g0, 0, 1⟩ ∧ (s ≠ [] → g0 = v.ownBlock) ∧ (s = [] → v = .slice none 0 0) := by
  obtain ⟨blk, hb, hm⟩ := h1
  cases s with
  | nil => exact ⟨.inl ⟨hr.inv_nils, rfl⟩, blk, hb, fun h => absurd rfl h, fun _ => hr.inv_nils⟩
  | cons c s =>
    rcases Rep.inv_sl (id := 1) (off := 0) (len := (c :: s).length) hr with ⟨base, z, _, _, h, _⟩ | ⟨a, i, _, h, _⟩ | ⟨cap, b, base, z, n, e, hbl, hsh, hsz, hlc, hcm, hv⟩
    · simp at h
    · simp at h
    · rw [hb] at hbl
      simp only [Option.some.injEq, BI.mk.injEq] at hbl
      obtain ⟨rfl, rfl, rfl⟩ := hbl
      obtain ⟨cur, hg, hle, hcell⟩ := hm
      simp only [World.shape?, hg, Option.some.injEq, Prod.mk.injEq] at hsh
      obtain ⟨rfl, rfl⟩ := hsh
      subst hv
      exact ⟨.inr ⟨b, cap, cur, by simp, by simp, hg, hlc, hcm, by omega, hcell⟩, some b, hb, fun _ => by simp [Value.ownBlock], fun h => by cases h⟩
theorem buf_to {U : TypeId} {w : World} {I : Nat → Prop} {bl : Nat → Option BI} {v : Value} {s : List UInt8} (h : BufIs U w v s) (hb : bl 1 = some ⟨v.ownBlock, 0, 1⟩) : Rep w I bl v (bufV 1 s) ∧ ObRep w I bl 1 (.buf U s) ∧ v.oneCell' = true := by
  rcases h with ⟨rfl, rfl⟩ | ⟨g, cap, cur, rfl, hne, hg, hlc, hcm, hcs, hcell⟩
  · exact ⟨.pure _ _ .nils, ⟨none, hb, rfl⟩, rfl⟩
  · refine ⟨?_, ⟨some g, hb, cur, hg, by omega, hcell⟩, rfl⟩
    have hsl : bufV 1 s = .sl 1 0 s.length := by
      cases s with
      | nil => exact absurd rfl hne
      | cons c s => rfl
    rw [hsl]
    have := Rep.sl (w := w) (I := I) (bl := bl) 1 0 s.length cap g 0 1 cur.size U hb (by simp [World.shape?, hg]) (by omega) hlc hcm
    simpa using this
end Go.Proofs.YtmjglpdfkkmcoaaDoor
