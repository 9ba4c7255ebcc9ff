/- Abstract walk: operands, one operation, a region, the code. No conditions. -/
import Derived.Test.YtbdogoccjcifnaaDoorAwa
set_option linter.unusedSimpArgs false
set_option linter.unusedVariables false
set_option maxRecDepth 100000
namespace Go.Proofs.YtbdogoccjcifnaaDoor
open Go.RowKit

/-- A constant's cell. -/
def V.ofCell : Value → V
  | .bool b => .bool b
  | .int k n => .int k n
  | .string s => if s.size ≤ maxLen then .str s.data.toList else .any
  | .slice none 0 0 => .nils
  | .pointer none => .nilp
  | .nilIface => .nili
  | _ => .any
def V.ofVal : Value → V
  | .agg cs => if cs.toList.all (·.oneCell') then .agg (cs.toList.map V.ofCell) else .any
  | .func (.func f) first cs => if first.toList.isEmpty && cs.toList.isEmpty then .fn f [] else .any
  | v => V.ofCell v

def St.val (σ : St) : Operand → V
  | .tmp t => σ.env.getD t .any
  | .const v => V.ofVal v
  | .global g => .gp g
  | .func f => .fn f []
def St.put (σ : St) (d : Option Tmp) (x : V) : St :=
  match d with
  | some d => { σ with env := σ.env.set d x }
  | none => σ

theorem pr_ofCell {w : World} {I : Nat → Prop} (v : Value) : Pr w I v (V.ofCell v) := by
  unfold V.ofCell
  split
  · exact .bool _
  · exact .int _ _
  · split
    · exact .str _ ‹_›
    · exact .any _
  · exact .nils
  · exact .nilp
  · exact .nili
  · exact .any _

theorem pr_ofVal {w : World} {I : Nat → Prop} (v : Value) : Pr w I v (V.ofVal v) := by
  unfold V.ofVal
  split
  · rename_i cs
    split
    · rename_i h
      refine .agg cs.toList _ (by simp) (fun v hv => List.all_eq_true.1 h v hv) ?_
      intro i v c hv hc
      simp only [List.getElem?_map, hv, Option.map_some, Option.some.injEq] at hc
      subst hc
      exact pr_ofCell v
    · exact .any _
  · rename_i f first cs
    split
    · rename_i h
      simp only [Bool.and_eq_true, List.isEmpty_iff, Array.toList_eq_nil_iff] at h
      obtain ⟨rfl, rfl⟩ := h
      exact Pr.fn f [] [] rfl (fun i v c hv hc => by simp at hv)
    · exact .any _
  · exact pr_ofCell v

/-- What a relation is made of. -/
structure RP (C : Ctx) (σ : St) (a : Act) (w : World) (I : Nat → Prop) (bl : Nat → Option BI) : Prop where
  defers : a.defers = []
  env : EnvRep σ.env a.tmps w I bl
  heap : HeapRep C σ.heap w I bl

theorem Rel.parts {C : Ctx} {σ : St} {a : Act} {w : World} (h : Rel C σ a w) : ∃ I bl, RP C σ a w I bl := by
  obtain ⟨I, bl, h1, h2, _, h4⟩ := h
  exact ⟨I, bl, h1, h2, h4⟩
theorem RP.rel {C : Ctx} {σ : St} {a : Act} {w : World} {I : Nat → Prop} {bl : Nat → Option BI} (h : RP C σ a w I bl) : Rel C σ a w :=
  ⟨I, bl, h.1, h.2, ⟨rfl, fun i v x hv => by simp at hv⟩, h.3⟩
theorem RP.relx {C : Ctx} {σ : St} {a : Act} {w : World} {I : Nat → Prop} {bl : Nat → Option BI} (h : RP C σ a w I bl) {v : Value} {x : V} (hx : Rep w I bl v x) : RelX C σ [x] a w [v] :=
  ⟨I, bl, h.1, h.2, ⟨rfl, fun i v' x' hv hx' => by
    cases i with
    | zero => simp at hv hx'; subst hv; subst hx'; exact hx
    | succ i => simp at hv⟩, h.3⟩

theorem RP.val {C : Ctx} {σ : St} {a : Act} {w : World} {I : Nat → Prop} {bl : Nat → Option BI} (h : RP C σ a w I bl) (o : Operand) : Rep w I bl (a.eval o) (σ.val o) := by
  cases o with
  | tmp t =>
    show Rep w I bl (a.tmps.getD t undef) (σ.env.getD t .any)
    by_cases ht : t < a.tmps.size
    · have ht' : t < σ.env.length := by rw [h.env.1]; exact ht
      refine h.env.2 t _ _ ?_ ?_
      · simp [Array.getD, ht]
      · simp [List.getD, ht']
    · have ht' : ¬ t < σ.env.length := by rw [h.env.1]; exact ht
      have e : σ.env.getD t .any = .any := by simp [List.getD, List.getElem?_eq_none (Nat.le_of_not_lt ht')]
      rw [e]
      exact .pure _ _ (.any _)
  | const v => exact .pure _ _ (pr_ofVal v)
  | global g => exact .pure _ _ (.gp g)
  | func f => exact .pure _ _ (Pr.fn f [] [] rfl (fun i v c hv hc => by simp at hv))

theorem relx_put {C : Ctx} {σ : St} {a : Act} {w : World} {v : Value} {x : V} (d : Option Tmp) (h : RelX C σ [x] a w [v]) : Rel C (σ.put d x) (a.put d v) w := by
  obtain ⟨I, bl, h1, h2, h3, h4⟩ := h
  have hx : Rep w I bl v x := h3.2 0 v x rfl rfl
  refine ⟨I, bl, ?_, ?_, ⟨rfl, fun i v x hv => by simp at hv⟩, ?_⟩
  · cases d <;> exact h1
  · cases d with
    | none => exact h2
    | some d =>
      refine ⟨by simp [St.put, Act.put, h2.1], ?_⟩
      intro i v' x' hv hx'
      simp only [Act.put, St.put] at hv hx'
      by_cases hi : d = i
      · subst hi
        rw [List.getElem?_set_self'] at hx'
        rw [Array.getElem?_setIfInBounds] at hv
        by_cases hlt : d < a.tmps.size
        · have hlt' : d < σ.env.length := by rw [h2.1]; exact hlt
          simp [hlt] at hv
          simp [hlt'] at hx'
          subst hv; subst hx'
          exact hx
        · simp [hlt] at hv
      · rw [List.getElem?_set_ne hi] at hx'
        rw [Array.getElem?_setIfInBounds, if_neg hi] at hv
        exact h2.2 i v' x' hv hx'
  · cases d <;> exact h4

/-- One operation: whatever it leaves, K holds of it. -/
def OpOk (C : Ctx) (o : Oper) (σ : St) (K : V → St → Prop) : Prop :=
  ∀ a w, Rel C σ a w → ∀ (next : Act → World → Prop) (Q : Exit → Act → World → Prop), (∀ v w' r σ', K r σ' → RelX C σ' [r] a w' [v] → next (a.put o.dst v) w') →
    o.upon C.P a next Q ((execOp a.eval o).run C.P w)

theorem opOk_value {C : Ctx} {o : Oper} {σ : St} {K : V → St → Prop}
    (h : ∀ a w I bl, RP C σ a w I bl → ∃ v w' r σ', (execOp a.eval o).run C.P w = .ok (.value v) w' ∧ K r σ' ∧ RelX C σ' [r] a w' [v]) : OpOk C o σ K := by
  intro a w hr next Q hn
  obtain ⟨I, bl, hp⟩ := hr.parts
  obtain ⟨v, w', r, σ', h1, h2, h3⟩ := h a w I bl hp
  rw [h1]
  exact hn v w' r σ' h2 h3

/-- An operation that only looks. -/
theorem opOk_pure {C : Ctx} {o : Oper} {σ : St} {K : V → St → Prop} (r : V) (hk : K r σ)
    (h : ∀ a w I bl, RP C σ a w I bl → ∃ v, (execOp a.eval o).run C.P w = .ok (.value v) w ∧ Rep w I bl v r) : OpOk C o σ K :=
  opOk_value fun a w I bl hp => let ⟨v, h1, h2⟩ := h a w I bl hp; ⟨v, w, r, σ, h1, hk, hp.relx h2⟩

def PutK (d : Option Tmp) (K : St → Prop) (r : V) (σ : St) : Prop := K (σ.put d r)
theorem PutK_eq (d : Option Tmp) (K : St → Prop) (r : V) (σ : St) : PutK d K r σ = K (σ.put d r) := rfl

/-- The place that a guard asks. -/
def guardOf (ops : Array Oper) (σ : St) (j : Nat) : V := match (ops[j]?).bind (·.dst) with | some t => σ.env.getD t .any | none => .any

theorem guard_none {C : Ctx} {σ : St} {a : Act} {w : World} {ops : Array Oper} {j : Nat} {l : List V} (h : Rel C σ a w) (hg : guardOf ops σ j = .tup l) : yielded ops a.tmps j = none := by
  obtain ⟨I, bl, hp⟩ := h.parts
  unfold guardOf at hg
  unfold yielded
  cases hd : (ops[j]?).bind (·.dst) with
  | none => simp [hd] at hg
  | some t =>
    simp only [hd] at hg
    have hv := hp.val (.tmp t)
    simp only [Act.eval, St.val, hg] at hv
    obtain ⟨vs, hv, _⟩ := hv.inv_tup
    by_cases ht : t < a.tmps.size
    · simp [Array.getD, ht] at hv
      simp [ht, hv]
    · simp [ht]
theorem rep_undef {w : World} {I : Nat → Prop} {bl : Nat → Option BI} : Rep w I bl undef (.tup []) :=
  .tup [] [] rfl (fun i v c h => by simp at h)
theorem guard_says {C : Ctx} {σ : St} {a : Act} {w : World} {ops : Array Oper} {j : Nat} {b : Bool} (h : Rel C σ a w) (hg : guardOf ops σ j = .bool b) : yielded ops a.tmps j = some b := by
  obtain ⟨I, bl, hp⟩ := h.parts
  unfold guardOf at hg
  unfold yielded
  cases hd : (ops[j]?).bind (·.dst) with
  | none => simp [hd] at hg
  | some t =>
    simp only [hd] at hg
    have hv := hp.val (.tmp t)
    simp only [Act.eval, St.val, hg] at hv
    have : a.tmps.getD t undef = .bool b := hv.inv_bool
    by_cases ht : t < a.tmps.size
    · simp [Array.getD, ht] at this
      simp [ht, this]
    · simp [Array.getD, ht, undef] at this

/-- A region's operations in the order of the text. -/
def AOps (C : Ctx) (step : Oper → St → (V → St → Prop) → Prop) (ops : Array Oper) (K : St → Prop) : List Oper → St → Prop
  | [], σ => K σ
  | o :: rest, σ =>
    match o.guard with
    | none => step o σ (PutK o.dst (AOps C step ops K rest))
    | some (j, want) =>
      match guardOf ops σ j with
      | .bool b => (b = want → step o σ (PutK o.dst (AOps C step ops K rest))) ∧ (b ≠ want → AOps C step ops K rest (σ.put o.dst (.tup [])))
      | .tup _ => AOps C step ops K rest (σ.put o.dst (.tup []))
      | _ => False

theorem aops_sound {C : Ctx} {step : Oper → St → (V → St → Prop) → Prop} (hs : ∀ o σ K, step o σ K → OpOk C o σ K) {ops : Array Oper} {K : St → Prop} {Q : Exit → Act → World → Prop} (hQ : ∀ σ a w, K σ → Rel C σ a w → Q .normal a w) :
    ∀ (l : List Oper) (k : Nat), (∀ j, ops[k + j]? = l[j]?) → ∀ (σ : St) (a : Act) (w : World), AOps C step ops K l σ → Rel C σ a w → wpOps C.P ops Q (List.range' k l.length) a w
  | [], k, hl, σ, a, w, h, hr => hQ σ a w h hr
  | o :: rest, k, hl, σ, a, w, h, hr => by
    have ho : ops[k]? = some o := by simpa using hl 0
    have hrest : ∀ j, ops[k + 1 + j]? = rest[j]? := fun j => by have := hl (j + 1); simpa [Nat.add_assoc, Nat.add_comm 1 j] using this
    have ih := aops_sound hs hQ rest (k + 1) hrest
    simp only [List.length_cons, List.range'_succ, wpOps, ho]
    have hstep : step o σ (PutK o.dst (AOps C step ops K rest)) → o.wp C.P a w (wpOps C.P ops Q (List.range' (k + 1) rest.length)) Q := by
      intro h
      refine hs _ _ _ h a w hr _ _ ?_
      intro v w' r σ' h1 h2
      exact ih (σ'.put o.dst r) _ _ h1 (relx_put o.dst h2)
    have hskip : AOps C step ops K rest (σ.put o.dst (.tup [])) → wpOps C.P ops Q (List.range' (k + 1) rest.length) (a.put o.dst undef) w := by
      intro h
      obtain ⟨I, bl, hp⟩ := hr.parts
      exact ih _ _ _ h (relx_put o.dst (hp.relx rep_undef))
    simp only [AOps] at h
    cases hg : o.guard with
    | none =>
      simp only [hg] at h
      have hw : Region.wanted o (yielded ops a.tmps) = true := by simp [Region.wanted, hg]
      rw [if_pos hw]
      exact .inl (hstep h)
    | some jw =>
      obtain ⟨j, want⟩ := jw
      simp only [hg] at h
      split at h
      · rename_i b hb
        have hy := guard_says hr hb
        by_cases he : b = want
        · have hw : Region.wanted o (yielded ops a.tmps) = true := by simp [Region.wanted, hg, hy, he]
          rw [if_pos hw]
          exact .inl (hstep (h.1 he))
        · have hw : Region.wanted o (yielded ops a.tmps) = false := by simp [Region.wanted, hg, hy, he]
          rw [if_neg (by simp [hw])]
          exact hskip (h.2 he)
      · rename_i l hb
        have hy := guard_none hr hb
        have hw : Region.wanted o (yielded ops a.tmps) = false := by simp [Region.wanted, hg, hy]
        rw [if_neg (by simp [hw])]
        exact hskip h
      · exact h.elim

/-- The code. A loop is left to its own law; a region that draws to 'quiet'. -/
def AW (C : Ctx) (step : Oper → St → (V → St → Prop) → Prop) (quiet : Array Oper → (St → Prop) → St → Prop) : Code → (Exit → St → Prop) → St → Prop
  | .skip, Q, σ => Q .normal σ
  | .label _, Q, σ => Q .normal σ
  | .region _ ops draw, Q, σ => match draw with
    | false => AOps C step ops (Q .normal) ops.toList σ
    | true => Up C (quiet ops (Q .normal)) σ
  | .seq x y, Q, σ => AW C step quiet x (ThenC (AW C step quiet y Q) Q) σ
  | .cond c x y, Q, σ => match σ.val c with
    | .bool t => (t = true → AW C step quiet x Q σ) ∧ (t = false → AW C step quiet y Q σ)
    | _ => False
  | .block id c, Q, σ => AW C step quiet c (InB id Q) σ
  | .loop c, Q, σ => AWp C (.loop c) Q σ
  | .exit id, Q, σ => Q (.exit id) σ
  | .ret, Q, σ => Q .ret σ
  | _, _, _ => False

theorem aw_sound {C : Ctx} {step : Oper → St → (V → St → Prop) → Prop} {quiet : Array Oper → (St → Prop) → St → Prop} (hs : ∀ o σ K, step o σ K → OpOk C o σ K)
    (hq : ∀ id ops K σ, quiet ops K σ → ∀ Q : Exit → St → Prop, (∀ σ, K σ → Q .normal σ) → AWp C (.region id ops true) Q σ) :
    ∀ (c : Code) (Q : Exit → St → Prop) (σ : St), AW C step quiet c Q σ → AWp C c Q σ := by
  intro c
  induction c with
  | skip => exact fun Q σ h => awp_skip h
  | label l => exact fun Q σ h a w hr => wp_label ⟨σ, h, hr⟩
  | region id ops draw =>
    intro Q σ h
    cases draw with
    | false =>
      intro a w hr
      refine wp_region ?_
      have := aops_sound (Q := fun e a' w' => ∃ σ', Q e σ' ∧ Rel C σ' a' w') hs (fun σ a w h1 h2 => ⟨σ, h1, h2⟩) ops.toList 0 (fun j => by simp) σ a w h hr
      simpa [List.range_eq_range'] using this
    | true => exact awp_up (up_mono h fun σ hσ => hq id ops _ σ hσ Q (fun _ h => h))
  | seq x y ihx ihy =>
    intro Q σ h
    refine awp_seq (awp_mono (ihx _ _ h) ?_)
    intro e σ h
    cases e with
    | normal => exact ihy _ _ h
    | exit id => exact h
    | goto l => exact h
    | ret => exact h
    | panic ch => exact h
    | outgrown => exact h
  | cond c x y ihx ihy =>
    intro Q σ h
    simp only [AW] at h
    split at h
    · rename_i t ht
      refine awp_cond t ?_ (fun e => ihx _ _ (h.1 e)) (fun e => ihy _ _ (h.2 e))
      intro a w hr
      obtain ⟨I, bl, hp⟩ := hr.parts
      have := hp.val c
      rw [ht] at this
      exact this.inv_bool
    · exact h.elim
  | block id c ih => exact fun Q σ h => awp_block (ih _ _ h)
  | loop c _ => exact fun Q σ h => h
  | exit id => exact fun Q σ h => awp_exit h
  | ret => exact fun Q σ h => awp_ret h
  | rangeFunc f ps as b _ _ => exact fun Q σ h => h.elim
  | scope b _ => exact fun Q σ h => h.elim
  | goto l => exact fun Q σ h => h.elim
  | refuse s => exact fun Q σ h => h.elim
end Go.Proofs.YtbdogoccjcifnaaDoor
