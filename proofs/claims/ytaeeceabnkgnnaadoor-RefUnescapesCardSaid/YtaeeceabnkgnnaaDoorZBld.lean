/- strings.Builder's methods as contracts over the call's own objects, and the callers' rules. No conditions. -/
import Derived.Test.YtaeeceabnkgnnaaDoorData
import Derived.Lib.Builder
import Derived.Lib.UnsafeStr
import Derived.Test.YtaeeceabnkgnnaaDoorAwx
import Derived.Lib.AppendStr
import Derived.Test.YtaeeceabnkgnnaaDoorAwz
/-! strings.Builder's methods, walked: what each call does to the world. No conditions. -/
set_option linter.unusedSimpArgs false
set_option linter.unusedVariables false
set_option maxRecDepth 100000
namespace Go.Proofs.YtaeeceabnkgnnaaDoor
open Go.RowKit

theorem bld_size : (Tryd.prog.info? 47).map (·.size) = some 2 := by kernel_rfl
theorem bld_lies : liesAt Tryd.prog Tryd.prog.depth 47 (2 / Tryd.prog.cellsOf 47) 0 47 1 = true := by kernel_rfl
set_option maxHeartbeats 1000000 in
set_option maxRecDepth 100000 in
theorem cc_used (b : Nat) (w : World) (h0 : w.cell? ⟨b, 0, none⟩ = some (.pointer (some ⟨b, 0, none⟩))) :
    Calls Tryd.prog 62 #[.pointer (some ⟨b, 0, none⟩)] w fun e w' => e = .returned (.tuple #[]) ∧ w' = w := by
  obtain ⟨j, hj, _⟩ := Option.map_eq_some_iff.1 bld_size
  go_enter Tryd.func62, Tryd.ntmps62
  go_wp2
  rw [Lib.run_neq_ptr_same w _ Tryd.underlying44 hj]
  go_wp2
  go_end0
  exact ⟨rfl, rfl⟩
set_option maxHeartbeats 1000000 in
set_option maxRecDepth 100000 in
theorem cc_fresh (b : Nat) (w : World) (h0 : w.cell? ⟨b, 0, none⟩ = some (.pointer none)) (hsh : w.shape? b = some (47, 2)) (hfz : w.frozen? ⟨b, 0, none⟩ = false) :
    Calls Tryd.prog 62 #[.pointer (some ⟨b, 0, none⟩)] w fun e w' => e = .returned (.tuple #[]) ∧ w' = w.setCell ⟨b, 0, none⟩ (.pointer (some ⟨b, 0, none⟩)) := by
  obtain ⟨j, hj, hjs⟩ := Option.map_eq_some_iff.1 bld_size
  go_enter Tryd.func62, Tryd.ntmps62
  go_wp2
  rw [Lib.run_to_unsafe w ⟨b, 0, none⟩ Tryd.underlying44 Tryd.underlying111 hj (by rw [hjs]; decide) hsh (Nat.zero_lt_succ 1)]
  simp only [Result.andThen]
  rw [Oper.upon_value]
  go_wp2
  rw [run_callFunc_extern Tryd.func83 (by kernel_rfl) (by kernel_rfl) (by kernel_rfl) (e := Extern.AbiNoEscape.same) (by kernel_rfl)]
  rw [Lib.run_noEscape]
  simp only [Result.andThen]
  rw [Oper.upon_value]
  go_wp2
  rw [Lib.run_from_unsafe w ⟨b, 0, none⟩ Tryd.underlying111 Tryd.underlying44 hj hsh bld_lies]
  simp only [Result.andThen]
  rw [Oper.upon_value]
  go_wp2
  go_end0
  exact ⟨rfl, rfl⟩
end Go.Proofs.YtaeeceabnkgnnaaDoor

/-! A builder's buffer: appending bytes, as the world sees it. No conditions. -/
namespace Go.Proofs.YtaeeceabnkgnnaaDoor
open Go.RowKit

def byv (c : UInt8) : Value := .int .u8 c.toNat
/-- The slice v holds the bytes s in a row of its own (of U), or is nil and holds none. -/
def BufIs (U : TypeId) (w : World) (v : Value) (s : List UInt8) : Prop :=
  (v = .slice none 0 0 ∧ s = []) ∨ ∃ g cap cur, v = .slice (some ⟨g, 0, none⟩) s.length cap ∧ s ≠ [] ∧ w.heap[g]? = some (.cells cur U (0, 0)) ∧ s.length ≤ cap ∧ cap ≤ maxLen ∧ cap ≤ cur.size ∧
    ∀ (i : Nat) (x : UInt8), s[i]? = some x → cur[i]? = some (byv x)
/-- What turns when the buffer v becomes v': its own row alone; a new row is a new block. -/
structure BFrame (w w' : World) (v v' : Value) : Prop where
  os : w'.os = w.os
  tape : w'.tape = w.tape
  output : w'.output = w.output
  size : w.heap.size ≤ w'.heap.size
  block : ∀ k, k < w.heap.size → v.ownBlock ≠ some k → w'.heap[k]? = w.heap[k]?
  shape : ∀ b s, w.shape? b = some s → w'.shape? b = some s
  own : ∀ g, v'.ownBlock = some g → v.ownBlock = some g ∨ (w.heap.size ≤ g ∧ g < w'.heap.size)

theorem buf_cells {U : TypeId} {w : World} {v : Value} {s : List UInt8} (h : BufIs U w v s) : ∃ a cap, v = .slice a s.length cap := by
  rcases h with ⟨rfl, rfl⟩ | ⟨g, cap, cur, rfl, _⟩
  · exact ⟨_, _, rfl⟩
  · exact ⟨_, _, rfl⟩

theorem buf_append {P : Program} {t t' ty U : TypeId} {i : TypeInfo} {zv : Value} (w : World) (ht : P.underlying t = some (.slice U)) (hi : P.info? U = some i) (hiz : i.size = 1) (hz : i.zero = some zv) (hzs : zv.cells.size = 1) (hby : i.bytes = 1) (ht' : notInt P t' = true)
    {v x : Value} {s news : List UInt8} (hv : BufIs U w v s) (hlen : ∀ w', (Builtin.lenOf x).run P w' = .ok (news.length : Nat) w') (hf : ∀ w', w'.heap = w.heap → (Builtin.firstCells 1 news.length x).run P w' = .ok (news.map byv).toArray w')
    (hb : s.length + news.length ≤ 140737488355328) :
    ∃ v' w', (Builtin.append_ #[t, t'] ty #[v, x]).run P w = .ok v' w' ∧ BufIs U w' v' (s ++ news) ∧ BFrame w w' v v' := by
  have hmax : s.length + news.length ≤ maxLen := by simp only [maxLen]; omega
  have h1 : ∀ u ∈ news.map byv, u.oneCell' = true := by
    intro u hu
    obtain ⟨c, _, rfl⟩ := List.mem_map.1 hu
    rfl
  have grow : ∀ (base : Option Addr) (cap : Nat) (olds : List Value), v = .slice base s.length cap → olds = s.map byv → (Builtin.firstCells 1 s.length (.slice base s.length cap)).run P w.drew = .ok olds.toArray w.drew → cap < s.length + news.length →
      ∃ v' w', (Builtin.append_ #[t, t'] ty #[v, x]).run P w = .ok v' w' ∧ BufIs U w' v' (s ++ news) ∧ BFrame w w' v v' := by
    intro base cap olds hvv holds hf0 hlt
    have hr := run_append_grow' (P := P) (t := t) (t' := t') (ty := ty) (z := 1) w ht hi hiz hz ht' hf0 hlen (hf w.drew rfl) hlt hmax (by rw [hby]; omega)
    have hge := grownCap_ge w (s.length + news.length) cap U
    have hcm := grownCap_le_maxLen w (s.length + news.length) cap U hmax
    refine ⟨_, _, by rw [hvv]; exact hr, .inr ⟨w.heap.size, grownCap w (s.length + news.length) cap U, _, by rw [List.length_append], ?_, heap_alloc_new w.drew _, by rw [List.length_append]; exact hge, hcm, ?_, ?_⟩, ?_⟩
    · intro e
      have : (s ++ news).length = 0 := by rw [e]; rfl
      rw [List.length_append] at this
      omega
    · simp only [Array.size_append, List.size_toArray, holds, List.length_map, size_zeroCells, hzs]
      omega
    · intro j y hy
      have hj : j < (s ++ news).length := (List.getElem?_eq_some_iff.1 hy).1
      have e1 : olds.toArray ++ (news.map byv).toArray ++ Builtin.zeroCells zv.cells (grownCap w (s.length + news.length) cap U - (s.length + news.length)) = ((s ++ news).map byv).toArray ++ Builtin.zeroCells zv.cells (grownCap w (s.length + news.length) cap U - (s.length + news.length)) := by
        rw [holds]; simp
      rw [e1, Array.getElem?_append_left (by simpa using hj)]
      simp only [List.getElem?_toArray, List.getElem?_map, hy, Option.map_some]
    · have hl := later_alloc (fun _ => False) w.drew (.cells (olds.toArray ++ (news.map byv).toArray ++ Builtin.zeroCells zv.cells (grownCap w (s.length + news.length) cap U - (s.length + news.length))) U) (fun b hb => hb.elim)
      refine ⟨rfl, rfl, rfl, by simp, fun k hk _ => heap_alloc_was w.drew _ k hk, fun b s hs => hl.shape b s hs, fun g hg => .inr ?_⟩
      simp only [Value.ownBlock, Option.some.injEq] at hg
      subst hg
      exact ⟨Nat.le_refl _, by simp⟩
  rcases hv with ⟨rfl, rfl⟩ | ⟨g, cap, cur, rfl, hne, hg, hlc, hcm, hcs, hcell⟩
  · by_cases h0 : news = []
    · subst h0
      exact ⟨_, _, run_append_nothing w ht hi ht' hlen (by rw [hiz]; exact hf w rfl), .inl ⟨rfl, rfl⟩, ⟨rfl, rfl, rfl, Nat.le_refl _, fun _ _ _ => rfl, fun _ _ h => h, fun g hg => .inl hg⟩⟩
    · have : 0 < news.length := List.length_pos_iff.2 h0
      exact grow none 0 [] rfl rfl (by simp [Builtin.firstCells]) (by simp; omega)
  · by_cases hroom : s.length + news.length ≤ cap
    · have hfit : 0 + s.length * 1 + (news.map byv).length ≤ cur.size := by simp; omega
      have hr := run_append_room' (P := P) (t := t) (t' := t') (ty := ty) (z := 1) w ht hi hiz ht' (.of hg) hlen (hf w rfl) h1 hroom hfit
      have hsame : (cur.toList.take (0 + s.length * 1) ++ news.map byv ++ cur.toList.drop (0 + s.length * 1 + (news.map byv).length)).toArray.size = cur.size := by
        simp only [List.size_toArray, List.length_append, List.length_take, List.length_drop, Array.length_toList, List.length_map] at hfit ⊢
        omega
      refine ⟨_, _, hr, .inr ⟨g, cap, _, by rw [List.length_append], by simp [hne], setRow_heap w g cur _ U _ hg, by rw [List.length_append]; exact hroom, hcm, by rw [hsame]; exact hcs, ?_⟩, ?_⟩
      · intro j y hy
        rw [List.getElem?_toArray, mid_get _ _ _ _ (by simpa using hfit)]
        rw [List.getElem?_append] at hy
        simp only [Nat.zero_add, Nat.mul_one, List.length_map]
        by_cases hj : j < s.length
        · rw [if_pos hj] at hy ⊢
          rw [Array.getElem?_toList]
          exact hcell j y hy
        · rw [if_neg hj] at hy ⊢
          have : j - s.length < news.length := (List.getElem?_eq_some_iff.1 hy).1
          rw [if_pos (by omega), List.getElem?_map, hy]
          rfl
      · have hl := later_setRow (I := fun _ => False) hg hsame (fun h => h)
        refine ⟨rfl, rfl, rfl, by rw [size_setRow]; exact Nat.le_refl _, fun k hk hn => setRow_other w g k _ (fun e => hn (by simp [Value.ownBlock, e])), fun b s hs => hl.shape b s hs, fun g' hg' => .inl ?_⟩
        simpa [Value.ownBlock] using hg'
    · refine grow _ cap (s.map byv) rfl rfl (run_firstCells_some (P := P) w.drew 1 s.length ⟨g, 0, none⟩ s.length cap (s.map byv) (by simp) (fun j u hj => ?_)) (by omega)
      rw [Addr.add_lit]
      show w.cell? _ = _
      rw [cell_of_row w g _ cur U (0, 0) hg, Nat.zero_add]
      rw [List.getElem?_map, Option.map_eq_some_iff] at hj
      obtain ⟨y, hy, rfl⟩ := hj
      exact hcell j y hy

theorem wpList_buf {P : Program} {ops : Array Oper} {rest : List Oper} {o : Oper} {a : Act} {Q : Exit → Act → World → Prop} (w : World) (hgd : o.guard = none) (sl x : Operand) (t t' : TypeId)
    (ho : o.op = .call { callee := .builtin .append, args := #[sl, x], argTypes := #[t, t'] })
    {U : TypeId} {i : TypeInfo} {zv : Value} (ht : P.underlying t = some (.slice U)) (hi : P.info? U = some i) (hiz : i.size = 1) (hz : i.zero = some zv) (hzs : zv.cells.size = 1) (hby : i.bytes = 1) (ht' : notInt P t' = true)
    (v : Value) (s news : List UInt8) (hs : a.eval sl = v) (hv : BufIs U w v s) (hlen : ∀ w', (Builtin.lenOf (a.eval x)).run P w' = .ok (news.length : Nat) w') (hf : ∀ w', w'.heap = w.heap → (Builtin.firstCells 1 news.length (a.eval x)).run P w' = .ok (news.map byv).toArray w')
    (hb : s.length + news.length ≤ 140737488355328)
    (h : ∀ v' w', BufIs U w' v' (s ++ news) → BFrame w w' v v' → wpList P ops Q rest (a.put o.dst v') w') : wpList P ops Q (o :: rest) a w := by
  refine wpList_plain hgd fun K hK => ?_
  obtain ⟨v', w', hr, h2, h3⟩ := buf_append (P := P) (t := t) (t' := t') (ty := o.type) w ht hi hiz hz hzs hby ht' hv hlen hf hb
  unfold Oper.wp execOp
  simp only [ho, resolve, invoke, builtin, Sem.run_bind, Sem.run_pure, Result.andThen_ok, List.map_toArray, List.map_cons, List.map_nil, hs, hr]
  exact hK _ _ (h v' w' h2 h3)

/-- A builder's two objects, turned. -/
theorem heap2 {P : Program} {w w' : World} {I : Nat → Prop} {bl : Nat → Option BI} {o0 o1 o0' o1' : Ob} (hH : HeapRep ⟨P, w, blocksOf bl, I⟩ [some o0, some o1] w I bl) {b : Nat} (h0 : bl 0 = some ⟨some b, 0, 2⟩) {g0 g1 : Option Nat} (h1 : bl 1 = some ⟨g0, 0, 1⟩)
    (hos : w'.os = w.os) (htape : w'.tape = w.tape) (hout : w'.output = w.output) (hsize : w.heap.size ≤ w'.heap.size) (hblock : ∀ k, k < w.heap.size → k ≠ b → g0 ≠ some k → w'.heap[k]? = w.heap[k]?) (hshape : ∀ b s, w.shape? b = some s → w'.shape? b = some s)
    (hown : ∀ g, g1 = some g → g0 = some g ∨ (w.heap.size ≤ g ∧ g < w'.heap.size))
    (r0 : ObRep w' I (upd bl 1 ⟨g1, 0, 1⟩) 0 o0') (r1 : ObRep w' I (upd bl 1 ⟨g1, 0, 1⟩) 1 o1') : HeapRep ⟨P, w, blocksOf bl, I⟩ [some o0', some o1'] w' I (upd bl 1 ⟨g1, 0, 1⟩) := by
  have two : ∀ id i, bl id = some i → id = 0 ∨ id = 1 := by
    intro id i h
    obtain ⟨o, ho⟩ := hH.live id i h
    have := (List.getElem?_eq_some_iff.1 ho).1
    simp at this
    omega
  have hb := hH.own 0 _ b h0 rfl
  have hu0 : upd bl 1 (⟨g1, 0, 1⟩ : BI) 0 = some ⟨some b, 0, 2⟩ := by rw [upd_other (by decide)]; exact h0
  have hu1 : upd bl 1 (⟨g1, 0, 1⟩ : BI) 1 = some ⟨g1, 0, 1⟩ := upd_same _ _ _
  have hE : ∀ k, k < w.heap.size → ¬ blocksOf bl k → w'.heap[k]? = w.heap[k]? := by
    intro k hk hn
    refine hblock k hk (fun e => hn ⟨0, _, h0, by rw [e]⟩) (fun e => hn ⟨1, _, h1, e⟩)
  have gne : ∀ g, g1 = some g → g ≠ b := by
    intro g hg e
    rcases hown g hg with h | h
    · subst e
      have := hH.apart 0 1 _ _ g h0 h1 rfl h
      omega
    · have := hb.1; omega
  have cases2 : ∀ id i, upd bl 1 (⟨g1, 0, 1⟩ : BI) id = some i → (id = 0 ∧ i = ⟨some b, 0, 2⟩) ∨ (id = 1 ∧ i = ⟨g1, 0, 1⟩) := by
    intro id i h
    by_cases e : id = 1
    · subst e; rw [hu1] at h; exact .inr ⟨rfl, (Option.some.inj h).symm⟩
    · rw [upd_other e] at h
      rcases two id i h with e' | e'
      · subst e'; rw [h0] at h; exact .inl ⟨rfl, (Option.some.inj h).symm⟩
      · exact absurd e' e
  refine ⟨fun id o ho => ?_, fun id i hi => ?_, fun id id' i i' c h2 h3 h4 h5 => ?_, fun id i c h2 h3 => ?_, fun k hk => ?_, ⟨hos, htape, hout, hsize, hE, hshape⟩⟩
  · match id, ho with
    | 0, ho => simp at ho; subst ho; exact r0
    | 1, ho => simp at ho; subst ho; exact r1
    | n + 2, ho => simp at ho
  · rcases cases2 id i hi with ⟨rfl, _⟩ | ⟨rfl, _⟩
    · exact ⟨_, rfl⟩
    · exact ⟨_, rfl⟩
  · rcases cases2 id i h2 with ⟨rfl, rfl⟩ | ⟨rfl, rfl⟩ <;> rcases cases2 id' i' h3 with ⟨rfl, rfl⟩ | ⟨rfl, rfl⟩
    · rfl
    · simp at h4; subst h4; exact absurd rfl (gne _ h5)
    · simp at h5; subst h5; exact absurd rfl (gne _ h4)
    · rfl
  · rcases cases2 id i h2 with ⟨rfl, rfl⟩ | ⟨rfl, rfl⟩
    · simp at h3; subst h3
      exact ⟨Nat.lt_of_lt_of_le hb.1 hsize, hb.2.1, .inl ⟨0, _, h0, rfl⟩⟩
    · rcases hown c h3 with h | h
      · have := hH.own 1 _ c h1 h
        exact ⟨Nat.lt_of_lt_of_le this.1 hsize, this.2.1, .inl ⟨1, _, h1, h⟩⟩
      · refine ⟨h.2, fun hI => ?_, .inr h.1⟩
        have := (hH.imm c hI).1
        omega
  · have := hH.imm k hk
    exact ⟨Nat.lt_of_lt_of_le this.1 hsize, .inl hk⟩

/-- The buffer's slice, as the objects tell it. -/
def bufV (q : Nat) (s : List UInt8) : V := yV (some (q, s.length))
theorem buf_of {U : TypeId} {w : World} {I : Nat → Prop} {bl : Nat → Option BI} {v : Value} {s : List UInt8} (hr : Rep w I bl v (bufV 1 s)) (h1 : ObRep w I bl 1 (.buf U s)) : BufIs U w v s ∧ ∃ g0, bl 1 = some ⟨g0, 0, 1⟩ ∧ (s ≠ [] → g0 = v.ownBlock) ∧ (s = [] → v = .slice none 0 0) := by
  obtain ⟨blk, hb, hm⟩ := h1
  cases s with
  | nil => exact ⟨.inl ⟨hr.inv_nils, rfl⟩, blk, hb, fun h => absurd rfl h, fun _ => hr.inv_nils⟩
  | cons c s =>
    rcases Rep.inv_sl (id := 1) (off := 0) (len := (c :: s).length) hr with ⟨base, z, _, _, h, _⟩ | ⟨a, i, _, h, _⟩ | ⟨cap, b, base, z, n, e, hbl, hsh, hsz, hlc, hcm, hv⟩
    · simp at h
    · simp at h
    · rw [hb] at hbl
      simp only [Option.some.injEq, BI.mk.injEq] at hbl
      obtain ⟨rfl, rfl, rfl⟩ := hbl
      obtain ⟨cur, hg, hle, hcell⟩ := hm
      simp only [World.shape?, hg, Option.some.injEq, Prod.mk.injEq] at hsh
      obtain ⟨rfl, rfl⟩ := hsh
      subst hv
      exact ⟨.inr ⟨b, cap, cur, by simp, by simp, hg, hlc, hcm, by omega, hcell⟩, some b, hb, fun _ => by simp [Value.ownBlock], fun h => by cases h⟩
theorem buf_to {U : TypeId} {w : World} {I : Nat → Prop} {bl : Nat → Option BI} {v : Value} {s : List UInt8} (h : BufIs U w v s) (hb : bl 1 = some ⟨v.ownBlock, 0, 1⟩) : Rep w I bl v (bufV 1 s) ∧ ObRep w I bl 1 (.buf U s) ∧ v.oneCell' = true := by
  rcases h with ⟨rfl, rfl⟩ | ⟨g, cap, cur, rfl, hne, hg, hlc, hcm, hcs, hcell⟩
  · exact ⟨.pure _ _ .nils, ⟨none, hb, rfl⟩, rfl⟩
  · refine ⟨?_, ⟨some g, hb, cur, hg, by omega, hcell⟩, rfl⟩
    have hsl : bufV 1 s = .sl 1 0 s.length := by
      cases s with
      | nil => exact absurd rfl hne
      | cons c s => rfl
    rw [hsl]
    have := Rep.sl (w := w) (I := I) (bl := bl) 1 0 s.length cap g 0 1 cur.size U hb (by simp [World.shape?, hg]) (by omega) hlc hcm
    simpa using this
end Go.Proofs.YtaeeceabnkgnnaaDoor

/-! strings.Builder's methods, walked: what each call does to the world. No conditions. -/
namespace Go.Proofs.YtaeeceabnkgnnaaDoor
open Go.RowKit

theorem u8_info : ∃ i, Tryd.prog.info? 5 = some i ∧ i.zero = some (.int .u8 0) ∧ i.size = 1 ∧ i.bytes = 1 := by
  have h : (Tryd.prog.info? 5).map (fun i => (i.zero, i.size, i.bytes)) = some (some (.int .u8 0), 1, 1) := by kernel_rfl
  obtain ⟨i, hi, e⟩ := Option.map_eq_some_iff.1 h
  simp only [Prod.mk.injEq] at e
  exact ⟨i, hi, e.1, e.2.1, e.2.2⟩
/-- Nothing but block b has turned. -/
structure CFrame (w w' : World) (b : Nat) : Prop where
  os : w'.os = w.os
  tape : w'.tape = w.tape
  output : w'.output = w.output
  size : w'.heap.size = w.heap.size
  block : ∀ k, k ≠ b → w'.heap[k]? = w.heap[k]?
  shape : ∀ b s, w.shape? b = some s → w'.shape? b = some s
theorem setCell_frame {w : World} {b : Nat} {c0 c1 : Value} {T : TypeId} (hb : w.heap[b]? = some (.cells #[c0, c1] T (0, 0))) (o : Nat) (v : Value) :
    CFrame w (w.setCell ⟨b, o, none⟩ v) b ∧ (w.setCell ⟨b, o, none⟩ v).heap[b]? = some (.cells (#[c0, c1].setIfInBounds o v) T (0, 0)) := by
  have h1 : (w.setCell ⟨b, o, none⟩ v).heap[b]? = some (.cells (#[c0, c1].setIfInBounds o v) T (0, 0)) := by
    simp [World.setCell, Array.getElem?_modify, hb]
  have h2 : ∀ k, k ≠ b → (w.setCell ⟨b, o, none⟩ v).heap[k]? = w.heap[k]? := fun k hk => Below.heap_setCell _ _ _ _ (fun e => hk (by simp [e]))
  refine ⟨⟨rfl, rfl, rfl, by simp [World.setCell], h2, fun k s hs => ?_⟩, h1⟩
  by_cases hk : k = b
  · subst hk
    simp only [World.shape?, hb, Option.some.injEq] at hs
    subst hs
    simp [World.shape?, h1]
  · simpa [World.shape?, h2 k hk] using hs
theorem CFrame.refl (w : World) (b : Nat) : CFrame w w b := ⟨rfl, rfl, rfl, rfl, fun _ _ => rfl, fun _ _ h => h⟩
theorem cc_run (b : Nat) (p v : Value) (w : World) (hb : w.heap[b]? = some (.cells #[p, v] 47 (0, 0))) (hp : p = .pointer none ∨ p = .pointer (some ⟨b, 0, none⟩)) :
    Calls Tryd.prog 62 #[.pointer (some ⟨b, 0, none⟩)] w fun e w' => e = .returned (.tuple #[]) ∧ w'.heap[b]? = some (.cells #[.pointer (some ⟨b, 0, none⟩), v] 47 (0, 0)) ∧ CFrame w w' b := by
  rcases hp with rfl | rfl
  · refine (cc_fresh b w (by rw [Lib.cell_of_heap hb]; rfl) (by simp [World.shape?, hb]) (Lib.frozen_of_heap hb 0)).mono ?_
    rintro e w' ⟨rfl, rfl⟩
    have h := setCell_frame hb 0 (.pointer (some ⟨b, 0, none⟩))
    exact ⟨rfl, h.2, h.1⟩
  · refine (cc_used b w (by rw [Lib.cell_of_heap hb]; rfl)).mono ?_
    rintro e w' ⟨rfl, rfl⟩
    exact ⟨rfl, hb, CFrame.refl _ _⟩
/-- What a writing call has turned. -/
structure WFrame (w w' : World) (b : Nat) (v v' : Value) : Prop where
  os : w'.os = w.os
  tape : w'.tape = w.tape
  output : w'.output = w.output
  size : w.heap.size ≤ w'.heap.size
  block : ∀ k, k < w.heap.size → k ≠ b → v.ownBlock ≠ some k → w'.heap[k]? = w.heap[k]?
  shape : ∀ b s, w.shape? b = some s → w'.shape? b = some s
  own : ∀ g, v'.ownBlock = some g → v.ownBlock = some g ∨ (w.heap.size ≤ g ∧ g < w'.heap.size)
theorem WFrame.mk3 {w w1 w2 w3 : World} {b : Nat} {v v' : Value} (h1 : CFrame w w1 b) (h2 : BFrame w1 w2 v v') (h3 : CFrame w2 w3 b) : WFrame w w3 b v v' :=
  ⟨h3.os.trans (h2.os.trans h1.os), h3.tape.trans (h2.tape.trans h1.tape), h3.output.trans (h2.output.trans h1.output), by rw [h3.size, ← h1.size]; exact h2.size,
    fun k hk hkb hv => (h3.block k hkb).trans ((h2.block k (by rw [h1.size]; exact hk) hv).trans (h1.block k hkb)), fun b s hs => h3.shape b s (h2.shape b s (h1.shape b s hs)),
    fun g hg => (h2.own g hg).imp id (fun h => by rw [h3.size, ← h1.size]; exact h)⟩
theorem BFrame.alloc {w w' : World} {v v' : Value} (o : Obj) (h : BFrame (w.alloc o) w' v v') : BFrame w w' v v' :=
  ⟨h.os, h.tape, h.output, Nat.le_trans (by simp) h.size, fun k hk hv => (h.block k (by simp; omega) hv).trans (heap_alloc_was w o k hk),
    fun b s hs => h.shape b s ((later_alloc (fun _ => False) w o (fun b hb => hb.elim)).shape b s hs), fun g hg => (h.own g hg).imp id (fun h => ⟨by have := h.1; simp at this; omega, h.2⟩)⟩
theorem BufIs.alloc {U : TypeId} {w : World} {v : Value} {s : List UInt8} (h : BufIs U w v s) (o : Obj) : BufIs U (w.alloc o) v s := by
  rcases h with h | ⟨g, cap, cur, h1, h2, h3, h4⟩
  · exact .inl h
  · exact .inr ⟨g, cap, cur, h1, h2, by rw [heap_alloc_was w o g (by rcases Nat.lt_or_ge g w.heap.size with h | h; exact h; simp [Array.getElem?_eq_none h] at h3)]; exact h3, h4⟩
theorem BufIs.other {U : TypeId} {w w' : World} {v : Value} {s : List UInt8} (h : BufIs U w v s) (hb : ∀ g, v.ownBlock = some g → w'.heap[g]? = w.heap[g]?) : BufIs U w' v s := by
  rcases h with h | ⟨g, cap, cur, rfl, h2, h3, h4⟩
  · exact .inl h
  · exact .inr ⟨g, cap, cur, rfl, h2, by rw [hb g rfl]; exact h3, h4⟩
theorem buf_block {U T : TypeId} {w : World} {v : Value} {s : List UInt8} {b : Nat} {cs : Array Value} {fr : Nat × Nat} (h : BufIs U w v s) (hb : w.heap[b]? = some (.cells cs T fr)) (hne : T ≠ U) : v.ownBlock ≠ some b := by
  rcases h with ⟨rfl, _⟩ | ⟨g, cap, cur, rfl, _, h3, _⟩
  · simp [Value.ownBlock]
  · intro e
    simp only [Value.ownBlock, Option.some.injEq] at e
    subst e
    rw [hb] at h3
    simp only [Option.some.injEq, Obj.cells.injEq] at h3
    exact hne h3.2.1
theorem block_lt {w : World} {b : Nat} {o : Obj} (h : w.heap[b]? = some o) : b < w.heap.size := by
  rcases Nat.lt_or_ge b w.heap.size with h' | h'
  · exact h'
  · simp [Array.getElem?_eq_none h'] at h
set_option maxHeartbeats 2000000 in
set_option maxRecDepth 100000 in
theorem wb_run (b : Nat) (p v : Value) (s : List UInt8) (c : UInt8) (w : World) (hb : w.heap[b]? = some (.cells #[p, v] 47 (0, 0))) (hp : p = .pointer none ∨ p = .pointer (some ⟨b, 0, none⟩)) (hv : BufIs 5 w v s) (hlen : s.length + 1 ≤ 140737488355328) :
    Calls Tryd.prog 36 #[.pointer (some ⟨b, 0, none⟩), .int .u8 c.toNat] w fun e w' => e = .returned .nilIface ∧ ∃ v', w'.heap[b]? = some (.cells #[.pointer (some ⟨b, 0, none⟩), v'] 47 (0, 0)) ∧ BufIs 5 w' v' (s ++ [c]) ∧ WFrame w w' b v v' := by
  obtain ⟨i0, hi, hz0, hz1, hz2⟩ := u8_info
  have hvb := buf_block hv hb (by decide)
  go_enter Tryd.func36, Tryd.ntmps36
  go_wp2_with (go_at_call 62; refine (cc_run b p v w hb hp).mono ?_)
  rintro e w1 ⟨rfl, hb1, hf1⟩
  have hv1 : BufIs 5 w1 v s := hv.other fun g hg => hf1.block g (fun e => hvb (e ▸ hg))
  have c0 : w1.cell? ⟨b, 0, none⟩ = some (.pointer (some ⟨b, 0, none⟩)) := by rw [Lib.cell_of_heap hb1]; rfl
  have c1 : w1.cell? ⟨b, 1, none⟩ = some v := by rw [Lib.cell_of_heap hb1]; rfl
  go_wp2_with (at_builtin; refine wpList_buf _ rfl _ _ _ _ rfl Tryd.underlying45 hi hz1 hz0 rfl hz2 (by kernel_rfl) _ s [c] rfl (hv1.alloc _) (fun w' => rfl) ?cf (by simp only [List.length_cons, List.length_nil]; omega) ?_)
  case cf =>
    intro w' hw
    refine run_firstCells_some (P := Tryd.prog) w' 1 1 ⟨w1.heap.size, 0, none⟩ 1 1 [byv c] rfl (fun j u hj => ?_)
    match j, hj with
    | 0, hj =>
      simp at hj
      subst hj
      rw [Addr.add_lit, cell_of_heap hw, Lib.cell_of_heap (heap_alloc_new w1 _)]
      rfl
    | n + 1, hj => simp at hj
  intro v2 w2 h2 hf2
  have hf2 := hf2.alloc
  have hb2 : w2.heap[b]? = some (.cells #[.pointer (some ⟨b, 0, none⟩), v] 47 (0, 0)) := (hf2.block b (block_lt hb1) hvb).trans hb1
  have d0 : w2.cell? ⟨b, 0, none⟩ = some (.pointer (some ⟨b, 0, none⟩)) := by rw [Lib.cell_of_heap hb2]; rfl
  have d1 : w2.cell? ⟨b, 1, none⟩ = some v := by rw [Lib.cell_of_heap hb2]; rfl
  have f1 : w2.frozen? ⟨b, 1, none⟩ = false := Lib.frozen_of_heap hb2 1
  have hs := setCell_frame hb2 1 v2
  have h2b := buf_block h2 hb2 (by decide)
  have h3 := h2.other (w' := w2.setCell ⟨b, 1, none⟩ v2) fun g hg => hs.1.block g (fun e => h2b (e ▸ hg))
  obtain ⟨a2, m2, n2, rfl⟩ : ∃ a m n, v2 = .slice a m n := by obtain ⟨a, n, e⟩ := buf_cells h2; exact ⟨_, _, _, e⟩
  go_wp2
  go_ret
  exact ⟨rfl, _, hs.2, h3, WFrame.mk3 hf1 hf2 hs.1⟩
set_option maxHeartbeats 2000000 in
set_option maxRecDepth 100000 in
theorem ws_run (b : Nat) (p v : Value) (s : List UInt8) (t : ByteArray) (w : World) (hb : w.heap[b]? = some (.cells #[p, v] 47 (0, 0))) (hp : p = .pointer none ∨ p = .pointer (some ⟨b, 0, none⟩)) (hv : BufIs 5 w v s) (hlen : s.length + t.size ≤ 140737488355328) :
    Calls Tryd.prog 48 #[.pointer (some ⟨b, 0, none⟩), .string t] w fun e w' => e = .returned (.tuple #[.int .i64 t.size, .nilIface]) ∧ ∃ v', w'.heap[b]? = some (.cells #[.pointer (some ⟨b, 0, none⟩), v'] 47 (0, 0)) ∧ BufIs 5 w' v' (s ++ t.data.toList) ∧ WFrame w w' b v v' := by
  obtain ⟨i0, hi, hz0, hz1, hz2⟩ := u8_info
  have hvb := buf_block hv hb (by decide)
  go_enter Tryd.func48, Tryd.ntmps48
  go_wp2_with (go_at_call 62; refine (cc_run b p v w hb hp).mono ?_)
  rintro e w1 ⟨rfl, hb1, hf1⟩
  have hv1 : BufIs 5 w1 v s := hv.other fun g hg => hf1.block g (fun e => hvb (e ▸ hg))
  have c0 : w1.cell? ⟨b, 0, none⟩ = some (.pointer (some ⟨b, 0, none⟩)) := by rw [Lib.cell_of_heap hb1]; rfl
  have c1 : w1.cell? ⟨b, 1, none⟩ = some v := by rw [Lib.cell_of_heap hb1]; rfl
  have hS := src_str (P := Tryd.prog) (w := w1) (I := fun _ => False) (bl := fun _ => none) t
  have hL : ∀ w', (Builtin.lenOf (.string t)).run Tryd.prog w' = .ok (t.data.toList.length : Nat) w' := fun w' => by have := hS.len w'; rw [List.length_map] at this; exact this
  have hF : ∀ w', w'.heap = w1.heap → (Builtin.firstCells 1 t.data.toList.length (.string t)).run Tryd.prog w' = .ok (t.data.toList.map byv).toArray w' := fun w' hw => by
    have := hS.first w' hw
    rw [List.length_map] at this
    exact this
  have hB : s.length + t.data.toList.length ≤ 140737488355328 := by simpa using hlen
  go_wp2_with (at_builtin; refine wpList_buf _ rfl _ _ _ _ rfl Tryd.underlying45 hi hz1 hz0 rfl hz2 (by kernel_rfl) _ s t.data.toList rfl hv1 hL hF hB ?_)
  intro v2 w2 h2 hf2
  have hb2 : w2.heap[b]? = some (.cells #[.pointer (some ⟨b, 0, none⟩), v] 47 (0, 0)) := (hf2.block b (block_lt hb1) hvb).trans hb1
  have d0 : w2.cell? ⟨b, 0, none⟩ = some (.pointer (some ⟨b, 0, none⟩)) := by rw [Lib.cell_of_heap hb2]; rfl
  have d1 : w2.cell? ⟨b, 1, none⟩ = some v := by rw [Lib.cell_of_heap hb2]; rfl
  have f1 : w2.frozen? ⟨b, 1, none⟩ = false := Lib.frozen_of_heap hb2 1
  have hs := setCell_frame hb2 1 v2
  have h2b := buf_block h2 hb2 (by decide)
  have h3 := h2.other (w' := w2.setCell ⟨b, 1, none⟩ v2) fun g hg => hs.1.block g (fun e => h2b (e ▸ hg))
  obtain ⟨a2, m2, n2, rfl⟩ : ∃ a m n, v2 = .slice a m n := by obtain ⟨a, n, e⟩ := buf_cells h2; exact ⟨_, _, _, e⟩
  go_wp2
  go_ret2
  exact ⟨rfl, _, hs.2, h3, WFrame.mk3 hf1 hf2 hs.1⟩
set_option maxHeartbeats 2000000 in
set_option maxRecDepth 100000 in
theorem str_run (b : Nat) (p v : Value) (s : List UInt8) (w : World) (hb : w.heap[b]? = some (.cells #[p, v] 47 (0, 0))) (hv : BufIs 5 w v s) :
    Calls Tryd.prog 37 #[.pointer (some ⟨b, 0, none⟩)] w fun e w' => e = .returned (.string ⟨s.toArray⟩) ∧ WFrame w w' b v (.slice none 0 0) ∧ w'.heap[b]? = w.heap[b]? := by
  have hvb := buf_block hv hb (by decide)
  rcases hv with ⟨rfl, rfl⟩ | ⟨g, cap, cur, rfl, hne, hg, hlc, hcm, hcs, hcell⟩
  · have hUS : ∀ W q, (Builtin.unsafeString_ #[96, 3] 9 #[.pointer q, .int .i64 0]).run Tryd.prog W = .ok (.string .empty) W := fun W q => Lib.run_unsafeString_none W _ _ _ q
    have c1 : w.drew.cell? ⟨b, 1, none⟩ = some (.slice none 0 0) := by
      have : w.drew.heap[b]? = some (.cells #[p, .slice none 0 0] 47 (0, 0)) := hb
      rw [Lib.cell_of_heap this]; rfl
    have hSD : (Builtin.unsafeSliceData_ #[45] 96 #[.slice none 0 0]).run Tryd.prog w.drew = .ok (.pointer none) w.drew := rfl
    go_enter Tryd.func37, Tryd.ntmps37
    go_wp2
    go_region
    all_goals (go_wp2; go_ret; exact ⟨rfl, ⟨rfl, rfl, rfl, Nat.le_refl _, fun _ _ _ _ => rfl, fun _ _ h => h, fun g hg => by simp [Value.ownBlock] at hg⟩, rfl⟩)
  · have hl0 : s.length ≠ 0 := by simpa using hne
    have c1 : w.drew.cell? ⟨b, 1, none⟩ = some (.slice (some ⟨g, 0, none⟩) s.length cap) := by
      have : w.drew.heap[b]? = some (.cells #[p, .slice (some ⟨g, 0, none⟩) s.length cap] 47 (0, 0)) := hb
      rw [Lib.cell_of_heap this]; rfl
    have hSD : (Builtin.unsafeSliceData_ #[45] 96 #[.slice (some ⟨g, 0, none⟩) s.length cap]).run Tryd.prog w.drew = .ok (.pointer (some ⟨g, 0, none⟩)) w.drew :=
      Lib.run_unsafeSliceData_row _ _ _ _ _ _ (by omega)
    have hgd : w.drew.heap[g]? = some (.cells cur 5 (0, 0)) := hg
    have hUS : (Builtin.unsafeString_ #[96, 3] 9 #[.pointer (some ⟨g, 0, none⟩), .int .i64 s.length]).run Tryd.prog w.drew = .ok (.string ⟨s.toArray⟩) (w.drew.freeze ⟨g, 0, none⟩ s.length) := by
      refine Lib.run_unsafeString_row w.drew 96 3 9 5 Tryd.underlying96 (by kernel_rfl) g cur.size (by simp [World.shape?, hgd]) s hne (by omega) (by unfold maxLen at hcm; omega) ?_
      intro j x hx
      rw [Addr.add_lit, Lib.cell_of_heap hgd, Nat.zero_add]
      exact hcell j x hx
    go_enter Tryd.func37, Tryd.ntmps37
    go_wp2
    go_region
    all_goals go_wp2
    all_goals go_ret
    have hfr : ∀ k, k ≠ g → (w.drew.freeze ⟨g, 0, none⟩ s.length).heap[k]? = w.heap[k]? := by
      intro k hk
      unfold World.freeze
      rw [if_neg hl0]
      simp only [Array.getElem?_modify]
      rw [if_neg (fun e => hk e.symm)]
      rfl
    have hgb : g ≠ b := by simpa [Value.ownBlock] using hvb
    have hsh : ∀ b s', w.shape? b = some s' → (w.drew.freeze ⟨g, 0, none⟩ s.length).shape? b = some s' := by
      intro k s' hs
      by_cases hk : k = g
      · subst hk
        simp only [World.shape?, hg] at hs
        unfold World.freeze
        rw [if_neg hl0]
        simp only [World.shape?, Array.getElem?_modify, hgd]
        exact hs
      · simpa [World.shape?, hfr k hk] using hs
    have hsz : (w.drew.freeze ⟨g, 0, none⟩ s.length).heap.size = w.heap.size := by
      unfold World.freeze
      rw [if_neg hl0]
      simp
    have hrest : (w.drew.freeze ⟨g, 0, none⟩ s.length).os = w.os ∧ (w.drew.freeze ⟨g, 0, none⟩ s.length).tape = w.tape ∧ (w.drew.freeze ⟨g, 0, none⟩ s.length).output = w.output := by
      unfold World.freeze
      rw [if_neg hl0]
      exact ⟨rfl, rfl, rfl⟩
    all_goals exact ⟨rfl, ⟨hrest.1, hrest.2.1, hrest.2.2, by rw [hsz]; exact Nat.le_refl _, fun k hk hkb hv => hfr k (fun e => hv (by simp [Value.ownBlock, e])), hsh, fun g hg => by simp [Value.ownBlock] at hg⟩, hfr b (fun e => hgb e.symm)⟩
end Go.Proofs.YtaeeceabnkgnnaaDoor

/-! strings.Builder's methods as contracts over the call's own objects, and the callers' rules. No conditions. -/
namespace Go.Proofs.YtaeeceabnkgnnaaDoor
open Go.RowKit

theorem own_nil {v : Value} (h : v = .slice none 0 0) : v.ownBlock = none := by subst h; rfl
theorem h_wb (s : List UInt8) (c : UInt8) (hlen : s.length + 1 ≤ 140737488355328) : HFn Tryd.prog 36 [.ptr 0 0 0, .int .u8 c.toNat] [.bld 47 (some (1, s.length)), .buf 5 s] [0]
    (fun r o => r = .any ∧ o = [.bld 47 (some (1, (s ++ [c]).length)), .buf 5 (s ++ [c])]) := by
  intro w I bl vs hl hvs hH
  match vs, hl with
  | [v0, v1], _ =>
    obtain ⟨b, base, z, n, e, hbl, hsh, rfl⟩ := (hvs 0 v0 _ rfl rfl).inv_ptr
    obtain rfl := (hvs 1 v1 _ rfl rfl).inv_int
    obtain ⟨b', p, v, h0, hb, hp, hone, hr⟩ := hH.obj 0 _ rfl
    rw [h0] at hbl
    simp only [Option.some.injEq, BI.mk.injEq] at hbl
    obtain ⟨rfl, rfl, rfl⟩ := hbl
    obtain ⟨hv, g0, h1, hg0, hnil⟩ := buf_of hr (hH.obj 1 _ rfl)
    have hg : ∀ k, v.ownBlock = some k → g0 = some k := by
      intro k hk
      by_cases hs : s = []
      · rw [own_nil (hnil hs)] at hk; cases hk
      · rw [hg0 hs]; exact hk
    refine (wb_run b' p v s c w hb hp hv hlen).mono ?_
    rintro e w' ⟨rfl, v', hb', hv', hf⟩
    obtain ⟨r1, r2, r3⟩ := buf_to (I := I) (bl := upd bl 1 ⟨v'.ownBlock, 0, 1⟩) hv' (upd_same _ _ _)
    refine ⟨.nilIface, .any, _, I, upd bl 1 ⟨v'.ownBlock, 0, 1⟩, rfl, ⟨rfl, rfl⟩, rfl, .pure _ _ (.any _), heap2 hH h0 h1 hf.os hf.tape hf.output hf.size (fun k hk h2 h3 => hf.block k hk h2 (fun e => h3 (hg k e))) hf.shape (fun g hg' => (hf.own g hg').imp (hg g) id) ⟨b', _, v', by rw [upd_other (by decide)]; exact h0, hb', .inr rfl, r3, ?_⟩ r2, fun j hj => ?_⟩
    · exact r1
    · simp at hj
      subst hj
      exact upd_other (by decide)
theorem h_ws (s t : List UInt8) (hlen : s.length + t.length ≤ 140737488355328) : HFn Tryd.prog 48 [.ptr 0 0 0, .str t] [.bld 47 (some (1, s.length)), .buf 5 s] [0]
    (fun r o => r = .tup [.int .i64 t.length, .any] ∧ o = [.bld 47 (some (1, (s ++ t).length)), .buf 5 (s ++ t)]) := by
  intro w I bl vs hl hvs hH
  match vs, hl with
  | [v0, v1], _ =>
    obtain ⟨b, base, z, n, e, hbl, hsh, rfl⟩ := (hvs 0 v0 _ rfl rfl).inv_ptr
    obtain ⟨t', rfl, rfl, _⟩ := (hvs 1 v1 _ rfl rfl).inv_str
    obtain ⟨b', p, v, h0, hb, hp, hone, hr⟩ := hH.obj 0 _ rfl
    rw [h0] at hbl
    simp only [Option.some.injEq, BI.mk.injEq] at hbl
    obtain ⟨rfl, rfl, rfl⟩ := hbl
    obtain ⟨hv, g0, h1, hg0, hnil⟩ := buf_of hr (hH.obj 1 _ rfl)
    have hg : ∀ k, v.ownBlock = some k → g0 = some k := by
      intro k hk
      by_cases hs : s = []
      · rw [own_nil (hnil hs)] at hk; cases hk
      · rw [hg0 hs]; exact hk
    refine (ws_run b' p v s t' w hb hp hv (by simpa using hlen)).mono ?_
    rintro e w' ⟨rfl, v', hb', hv', hf⟩
    obtain ⟨r1, r2, r3⟩ := buf_to (I := I) (bl := upd bl 1 ⟨v'.ownBlock, 0, 1⟩) hv' (upd_same _ _ _)
    refine ⟨.tuple #[.int .i64 t'.size, .nilIface], _, _, I, upd bl 1 ⟨v'.ownBlock, 0, 1⟩, rfl, ⟨rfl, rfl⟩, rfl, .pure _ _ (Pr.tup [.int .i64 t'.size, .nilIface] _ rfl ?_), heap2 hH h0 h1 hf.os hf.tape hf.output hf.size (fun k hk h2 h3 => hf.block k hk h2 (fun e => h3 (hg k e))) hf.shape (fun g hg' => (hf.own g hg').imp (hg g) id) ⟨b', _, v', by rw [upd_other (by decide)]; exact h0, hb', .inr rfl, r3, ?_⟩ r2, fun j hj => ?_⟩
    · intro i u c hu hc
      match i, hu, hc with
      | 0, hu, hc =>
        simp at hu hc
        subst hu; subst hc
        exact .int _ _
      | 1, hu, hc =>
        simp at hu hc
        subst hu; subst hc
        exact .any _
      | n + 2, hu, hc => simp at hu
    · exact r1
    · simp at hj
      subst hj
      exact upd_other (by decide)
theorem h_str (s : List UInt8) : HFn Tryd.prog 37 [.ptr 0 0 0] [.bld 47 (some (1, s.length)), .buf 5 s] [0]
    (fun r o => r = .str s ∧ o = [.bld 47 none, .buf 5 []]) := by
  intro w I bl vs hl hvs hH
  match vs, hl with
  | [v0], _ =>
    obtain ⟨b, base, z, n, e, hbl, hsh, rfl⟩ := (hvs 0 v0 _ rfl rfl).inv_ptr
    obtain ⟨b', p, v, h0, hb, hp, hone, hr⟩ := hH.obj 0 _ rfl
    rw [h0] at hbl
    simp only [Option.some.injEq, BI.mk.injEq] at hbl
    obtain ⟨rfl, rfl, rfl⟩ := hbl
    obtain ⟨hv, g0, h1, hg0, hnil⟩ := buf_of hr (hH.obj 1 _ rfl)
    have hg : ∀ k, v.ownBlock = some k → g0 = some k := by
      intro k hk
      by_cases hs : s = []
      · rw [own_nil (hnil hs)] at hk; cases hk
      · rw [hg0 hs]; exact hk
    have hmax : s.length ≤ maxLen := by
      rcases hv with ⟨_, rfl⟩ | ⟨g, cap, cur, _, _, _, h1, h2, _⟩
      · exact Nat.zero_le _
      · exact Nat.le_trans h1 h2
    refine (str_run b' p v s w hb hv).mono ?_
    rintro e w' ⟨rfl, hf, hbb⟩
    refine ⟨.string ⟨s.toArray⟩, _, _, I, upd bl 1 ⟨none, 0, 1⟩, rfl, ⟨rfl, rfl⟩, rfl, .pure _ _ ?_, heap2 hH h0 h1 hf.os hf.tape hf.output hf.size (fun k hk h2 h3 => hf.block k hk h2 (fun e => h3 (hg k e))) hf.shape (fun g hg' => by cases hg') ⟨b', p, v, by rw [upd_other (by decide)]; exact h0, hbb.trans hb, hp, hone, .pure _ _ (.any _)⟩ ⟨none, upd_same _ _ _, rfl⟩, fun j hj => ?_⟩
    · have := Pr.str (w := w') (I := I) ⟨s.toArray⟩ (by simpa [ByteArray.size] using hmax)
      simpa using this
    · simp at hj
      subst hj
      exact upd_other (by decide)

/-! ### A new builder gets its buffer's place -/
theorem RP.adoptB {C : Ctx} {σ : St} {a : Act} {w : World} {I : Nat → Prop} {bl : Nat → Option BI} (hp : RP C σ a w I bl) {p : Nat} {T : TypeId} {q0 : Nat} (U : TypeId) (ho : σ.heap[p]? = some (some (.bld T (some (q0, 0))))) :
    RP C { σ with heap := putOb (σ.heap.set p (some (.bld T (some (freshIn σ.heap, 0))))) (.buf U []) } a w I (upd bl (freshIn σ.heap) ⟨none, 0, 1⟩) := by
  have hpl : p < σ.heap.length := (List.getElem?_eq_some_iff.1 ho).1
  have fr : ∀ (l l' : List (Option Ob)), l.length = l'.length → (∀ i : Nat, ((l[i]?).bind fun x => x).isSome = ((l'[i]?).bind fun x => x).isSome) → freshIn l = freshIn l' := by
    intro l
    induction l with
    | nil =>
      intro l' h _
      cases l' with
      | nil => rfl
      | cons _ _ => simp at h
    | cons x l ih =>
      intro l' h hh
      cases l' with
      | nil => simp at h
      | cons y l' =>
        have h0 := hh 0
        have hr := ih l' (by simpa using h) (fun i => by simpa using hh (i + 1))
        cases x <;> cases y <;> simp at h0
        · rfl
        · simp only [freshIn, hr]
  have hfr : freshIn (σ.heap.set p (some (.bld T (some (freshIn σ.heap, 0))))) = freshIn σ.heap := by
    refine fr _ _ (by simp) fun i => ?_
    by_cases e : i = p
    · subst e; rw [List.getElem?_set_self hpl, ho]; rfl
    · rw [List.getElem?_set_ne (Ne.symm e)]
  have hne : p ≠ freshIn σ.heap := fun e => fresh_free σ.heap _ (e ▸ ho)
  generalize hq : freshIn σ.heap = q at *
  have hb : ∀ k i, bl k = some i → upd bl q ⟨none, 0, 1⟩ k = some i := fun k i h => by rw [upd_other (hq ▸ hp.live_ne h)]; exact h
  have hat : (putOb (σ.heap.set p (some (.bld T (some (q, 0))))) (.buf U []))[q]? = some (some (.buf U [])) := by
    have := putOb_fresh (σ.heap.set p (some (.bld T (some (q, 0))))) (.buf U [])
    rwa [hfr] at this
  have hoth : ∀ id, id ≠ q → (putOb (σ.heap.set p (some (.bld T (some (q, 0))))) (.buf U []))[id]? = (σ.heap.set p (some (.bld T (some (q, 0)))))[id]? := fun id h => putOb_other _ _ _ (by rw [hfr]; exact h)
  refine ⟨hp.defers, hp.env.later (Later.refl _ _) (fun _ h => h) hb, ⟨?_, ?_, ?_, ?_, hp.heap.imm, hp.heap.kept⟩⟩
  · intro id o hoo
    have hoo : (putOb (σ.heap.set p (some (.bld T (some (q, 0))))) (.buf U []))[id]? = some (some o) := hoo
    by_cases hid : id = q
    · subst hid
      rw [hat] at hoo
      simp only [Option.some.injEq] at hoo
      subst hoo
      exact ⟨none, upd_same _ _ _, rfl⟩
    · rw [hoth id hid] at hoo
      have old : ∀ o', σ.heap[id]? = some (some o') → ObRep w I (upd bl q ⟨none, 0, 1⟩) id o' := fun o' h => (hp.heap.obj id o' h).later (Later.refl _ _) (fun _ h => h) hb (fun _ _ _ _ => rfl) (fun h => by rw [upd_other hid]; exact h)
      by_cases e : id = p
      · subst e
        rw [List.getElem?_set_self hpl] at hoo
        simp only [Option.some.injEq] at hoo
        subst hoo
        have h9 : ObRep w I (upd bl q ⟨none, 0, 1⟩) id (.bld T (some (q0, 0))) := old _ ho
        exact h9
      · rw [List.getElem?_set_ne (Ne.symm e)] at hoo
        exact old o hoo
  · intro id i h
    show ∃ o, (putOb (σ.heap.set p (some (.bld T (some (q, 0))))) (.buf U []))[id]? = some (some o)
    by_cases hid : id = q
    · subst hid; exact ⟨_, hat⟩
    · rw [upd_other hid] at h
      obtain ⟨o, hoo⟩ := hp.heap.live id i h
      rw [hoth id hid]
      by_cases e : id = p
      · subst e; rw [List.getElem?_set_self hpl]; exact ⟨_, rfl⟩
      · rw [List.getElem?_set_ne (Ne.symm e)]; exact ⟨o, hoo⟩
  · intro id id' i i' b h1 h2 h3 h4
    by_cases hid : id = q
    · subst hid
      rw [upd_same] at h1
      simp only [Option.some.injEq] at h1
      subst h1
      cases h3
    · rw [upd_other hid] at h1
      by_cases hid' : id' = q
      · subst hid'
        rw [upd_same] at h2
        simp only [Option.some.injEq] at h2
        subst h2
        cases h4
      · rw [upd_other hid'] at h2
        exact hp.heap.apart id id' i i' b h1 h2 h3 h4
  · intro id i b h1 h2
    by_cases hid : id = q
    · subst hid
      rw [upd_same] at h1
      simp only [Option.some.injEq] at h1
      subst h1
      cases h2
    · rw [upd_other hid] at h1
      exact hp.heap.own id i b h1 h2
theorem up_buf {C : Ctx} {K : ES → Prop} (p : Nat) (U : TypeId) {n : Nat} {T : TypeId} {q0 : Nat} {u : List (Nat × V)} {h : List (Option Ob)} (ho : h[p]? = some (some (.bld T (some (q0, 0)))))
    (hk : UpE C K ⟨n, u, putOb (h.set p (some (.bld T (some (freshIn h, 0))))) (.buf U [])⟩) : UpE C K ⟨n, u, h⟩ := by
  refine ⟨up_of_rel (fun a w hr => ?_) hk.out⟩
  obtain ⟨I, bl, hp⟩ := hr.parts
  exact (hp.adoptB (p := p) U ho).rel

/-! ### The callers' rules -/
section
variable {C : Ctx} {fop : Operand} {args : List Operand} {xs : List V} {K : V → ES → Prop} {σ : ES}
def rho (p q j : Nat) : Nat := match j with | 0 => p | _ => q
theorem call_bld {f : FuncId} {xs0 xs1 : List V} {s s' : List UInt8} {y : Option (Nat × Nat)} {R0 : V} (hC : C.P = Tryd.prog) (hb : hasBody Tryd.prog f = true) (p q : Nat) (hpq : p ≠ q)
    (h : HFn Tryd.prog f (.ptr 0 0 0 :: xs0) [.bld 47 (some (1, s.length)), .buf 5 s] [0] (fun r o => r = R0 ∧ o = [.bld 47 y, .buf 5 s']))
    (he : evalC σ fop args = some (f, .ptr p 0 0 :: xs1)) (hx : rnL 2 (rho p q) xs0 xs1) (hR : rnV 2 (rho p q) R0 R0) (hy : y = none ∨ ∃ n, y = some (1, n))
    (hp : σ.heap[p]? = some (some (.bld 47 (some (q, s.length))))) (hq : σ.heap[q]? = some (some (.buf 5 s)))
    (hK : killUE q σ.u fun u => fH (((killH q σ.heap).set p (some (.bld 47 (y.map fun y => (q, y.2))))).set q (some (.buf 5 s'))) fun h => K R0 ⟨σ.n, u, h⟩) : CallN C fop args f (.ptr p 0 0 :: xs1) K σ := by
  rw [killUE_eq, fH_eq] at hK
  have yv : ∀ n, rnV 2 (rho p q) (yV (some (1, n))) (yV (some (q, n))) := by
    intro n
    cases n with
    | zero => simp [yV, rnV]
    | succ n => simp [yV, rnV, rho]
  refine call_h h hC hb he (rho p q) ?_ ?_ ?_ [q] ?_ ?_ ?_
  · intro i j hi hj e
    match i, j, hi, hj with
    | 0, 0, _, _ => rfl
    | 1, 1, _, _ => rfl
    | 0, 1, _, _ => exact absurd e hpq
    | 1, 0, _, _ => exact absurd e.symm hpq
    | n + 2, _, hi, _ => simp at hi; omega
    | _, n + 2, _, hj => simp at hj; omega
  · simp only [rnL]
    exact ⟨.ptr p 0 0, xs1, rfl, by simp [rnV, rho], hx⟩
  · intro j o ho
    match j, ho with
    | 0, ho =>
      simp at ho
      subst ho
      exact ⟨_, hp, _, rfl, yv _⟩
    | 1, ho =>
      simp at ho
      subst ho
      exact ⟨_, hq, rfl⟩
    | n + 2, ho => simp at ho
  · intro j hj hn
    match j, hj with
    | 0, _ => simp
    | 1, _ => exact absurd (by simp [rho]) hn
    | n + 2, hj => simp at hj; omega
  · intro id hid
    simp at hid
    exact ⟨1, by simp, hid.symm⟩
  · rintro r0 objs' ⟨rfl, rfl⟩ _
    refine ⟨r0, [.bld 47 (y.map fun y => (q, y.2)), .buf 5 s'], hR, rfl, ?_, ?_⟩
    rotate_left
    · exact hK
    intro j o o' ho ho'
    match j, ho, ho' with
    | 0, ho, ho' =>
      simp at ho ho'
      subst ho; subst ho'
      refine ⟨_, rfl, ?_⟩
      rcases hy with rfl | ⟨n, rfl⟩
      · simp [yV, rnV]
      · exact yv n
    | 1, ho, ho' =>
      simp at ho ho'
      subst ho; subst ho'
      rfl
    | n + 2, ho, _ => simp at ho
theorem call_wb (hC : C.P = Tryd.prog) (p q : Nat) (hpq : p ≠ q) {s : List UInt8} (c : UInt8) {x : V} (hlen : s.length + 1 ≤ 140737488355328) (he : evalC σ fop args = some (36, [.ptr p 0 0, x])) (hx : x = .int .u8 c.toNat)
    (hp : σ.heap[p]? = some (some (.bld 47 (some (q, s.length))))) (hq : σ.heap[q]? = some (some (.buf 5 s)))
    (hK : killUE q σ.u fun u => fH (((killH q σ.heap).set p (some (.bld 47 (some (q, (s ++ [c]).length))))).set q (some (.buf 5 (s ++ [c])))) fun h => K .any ⟨σ.n, u, h⟩) : CallN C fop args 36 [.ptr p 0 0, x] K σ := by
  subst hx
  exact call_bld hC (by kernel_rfl) p q hpq (h_wb s c hlen) he (by simp [rnL, rnV]) (by simp [rnV]) (.inr ⟨_, rfl⟩) hp hq hK
theorem call_ws (hC : C.P = Tryd.prog) (p q : Nat) (hpq : p ≠ q) {s t : List UInt8} (hlen : s.length + t.length ≤ 140737488355328) (he : evalC σ fop args = some (48, [.ptr p 0 0, .str t]))
    (hp : σ.heap[p]? = some (some (.bld 47 (some (q, s.length))))) (hq : σ.heap[q]? = some (some (.buf 5 s)))
    (hK : killUE q σ.u fun u => fH (((killH q σ.heap).set p (some (.bld 47 (some (q, (s ++ t).length))))).set q (some (.buf 5 (s ++ t)))) fun h => K (.tup [.int .i64 t.length, .any]) ⟨σ.n, u, h⟩) : CallN C fop args 48 [.ptr p 0 0, .str t] K σ :=
  call_bld hC (by kernel_rfl) p q hpq (h_ws s t hlen) he (by simp [rnL, rnV]) (by simp [rnL, rnV]) (.inr ⟨_, rfl⟩) hp hq hK
theorem call_str (hC : C.P = Tryd.prog) (p q : Nat) (hpq : p ≠ q) {s : List UInt8} (he : evalC σ fop args = some (37, [.ptr p 0 0]))
    (hp : σ.heap[p]? = some (some (.bld 47 (some (q, s.length))))) (hq : σ.heap[q]? = some (some (.buf 5 s)))
    (hK : killUE q σ.u fun u => fH (((killH q σ.heap).set p (some (.bld 47 none))).set q (some (.buf 5 []))) fun h => K (.str s) ⟨σ.n, u, h⟩) : CallN C fop args 37 [.ptr p 0 0] K σ :=
  call_bld hC (by kernel_rfl) p q hpq (h_str s) he (by simp [rnL]) (by simp [rnV]) (.inl rfl) hp hq hK
end
end Go.Proofs.YtaeeceabnkgnnaaDoor
