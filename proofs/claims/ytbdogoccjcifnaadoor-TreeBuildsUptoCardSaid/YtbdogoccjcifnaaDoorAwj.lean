/- Abstract walk: the whole of it; facts of this seat's types. No conditions. -/
import Derived.Test.YtbdogoccjcifnaaDoorAwi
set_option linter.unusedSimpArgs false
set_option linter.unusedVariables false
set_option maxRecDepth 100000
namespace Go.Proofs.YtbdogoccjcifnaaDoor
open Go.RowKit

section any
variable {C : Ctx} {ops : Array Oper} {md : Region.Mode}
theorem wpAnyA_lex {Q : St → Prop} : ∀ (l : List Oper) (k : Nat) (listed : Array Bool) (σ : St), ClosedL .any ops listed → (∀ j < k, listed.getD j false = true) → listed.size = ops.size → k + l.length = ops.size → (∀ j, l[j]? = ops[k + j]?) →
    Region.lexFrom .any ops l.length k listed = true → QOps C ops Q l σ → wpAnyA C .any ops Q l.length listed σ
  | [], _, _, _, _, _, _, _, _, hB, h => ⟨by simpa [Region.lexFrom] using hB, h⟩
  | o :: l, k, listed, σ, hc, hpre, hls, hsz, hl, hB, h => by
    have h0 : ops[k]? = some o := by simpa using (hl 0).symm
    simp only [List.length_cons, Region.lexFrom, Bool.and_eq_true] at hB
    obtain ⟨⟨hr, hf⟩, hB'⟩ := hB
    have hr : k ∈ Region.ready .any ops listed := by simpa using hr
    simp only [List.length_cons] at hsz
    have hl' : ∀ j, l[j]? = ops[k + 1 + j]? := fun j => by have := hl (j + 1); simpa [Nat.add_assoc, Nat.add_comm 1 j] using this
    rcases qops_head h with ⟨r, hy, hK⟩ | ⟨hg, hb, hS⟩
    · exact wpAnyA_first h0 l.length listed σ hc (Region.free_spec h0 hf) hr hy
        (wpAnyA_lex l (k + 1) _ _ (closed_set hc hr) (pre_set hpre (by rw [hls, ← hsz]; omega)) (by rw [Array.size_setIfInBounds, hls]) (by omega) hl' hB' hK)
    · rw [show ops.size - (l.length + 1) = k by omega] at hb
      refine ⟨fun h => (by rw [h] at hr; cases hr), fun j hj => ?_⟩
      have hjk := bar_sole hb hc hpre hr hj
      subst hjk
      unfold qOpA
      simp only [h0]
      exact .inr ⟨hg, hb, _, hS, fun r σ' hk => wpAnyA_lex l (j + 1) _ _ (closed_set hc hr) (pre_set hpre (by rw [hls, ← hsz]; omega)) (by rw [Array.size_setIfInBounds, hls]) (by omega) hl' hB' hk⟩
end any

def Quiet (C : Ctx) (ops : Array Oper) (K : St → Prop) (σ : St) : Prop :=
  C.P.follows .mixedOrders = true ∧ Region.lexB .any ops = true ∧ QOps C ops K ops.toList σ

theorem quiet_sound {C : Ctx} (id : Nat) (ops : Array Oper) (K : St → Prop) (σ : St) (h : Quiet C ops K σ) (Q : Exit → St → Prop) (hK : ∀ σ, K σ → Q .normal σ) : AWp C (.region id ops true) Q σ := by
  obtain ⟨hm, hB, h⟩ := h
  intro a w hr
  simp only [Region.lexB, Bool.and_eq_true] at hB
  obtain ⟨I, bl, hp⟩ := hr.parts
  have hp' : RP C σ a { w with drawn := w.drawn + 1 } I bl := hp.drew
  refine wp_region_any hm (wpAny_of_A (Q := K) (fun σ a w h1 h2 => ⟨σ, hK σ h2, h1⟩) _ _ σ a _ hp'.rel ?_)
  have := wpAnyA_lex ops.toList 0 (Array.replicate ops.size false) σ closed_none (fun j hj => absurd hj (Nat.not_lt_zero _)) (by simp) (by simp) (by simp) (by simpa using hB.2) h
  simpa using this

/-- THE WALK. -/
def W (C : Ctx) (c : Code) (Q : Exit → St → Prop) (σ : St) : Prop := AW C (Step C) (Quiet C) c Q σ
theorem w_sound {C : Ctx} {c : Code} {Q : Exit → St → Prop} {σ : St} (h : W C c Q σ) : AWp C c Q σ :=
  aw_sound step_sound (fun id ops K σ h Q hK => quiet_sound id ops K σ h Q hK) c Q σ h

/-- A function of read-only data, walked. -/
theorem fn1_walk {P : Program} {f : FuncId} {fn : Func} {c : Code} {args : List V} {R : V → Prop} (hf : P.funcs[f]? = some fn) (hb : fn.body = some c)
    (h : ∀ C : Ctx, C.P = P → W C c (RetQ C fn R) { env := args ++ List.replicate (fn.ntmps - args.length) .any, heap := [] }) : Fn1 P f args R :=
  fn1_of_awp hf hb fun C hC => w_sound (h C hC)

/-- A loop, walked. -/
theorem w_loop {C : Ctx} {c : Code} {Q : Exit → St → Prop} {σ : St} (Inv : St → Prop) (μ : St → Nat) (h0 : Up C Inv σ) (round : ∀ σ, Inv σ → W C c (ThenC (Up C fun σ' => Inv σ' ∧ μ σ' < μ σ) Q) σ) : AWp C (.loop c) Q σ :=
  awp_loop Inv μ h0 fun σ hi => w_sound (round σ hi)

section unfold
variable {C : Ctx} {Q : Exit → St → Prop} {σ : St}
theorem W_skip : W C .skip Q σ = Q .normal σ := Eq.trans rfl rfl
theorem W_label (l : Nat) : W C (.label l) Q σ = Q .normal σ := Eq.trans rfl rfl
theorem W_region (id : Nat) (ops : Array Oper) : W C (.region id ops false) Q σ = AOps C (Step C) ops (Q .normal) ops.toList σ := Eq.trans rfl rfl
theorem W_draw (id : Nat) (ops : Array Oper) : W C (.region id ops true) Q σ = Up C (Quiet C ops (Q .normal)) σ := Eq.trans rfl rfl
theorem W_seq (x y : Code) : W C (.seq x y) Q σ = W C x (ThenC (W C y Q) Q) σ := Eq.trans rfl rfl
theorem W_cond (c : Operand) (x y : Code) : W C (.cond c x y) Q σ = match σ.val c with | .bool t => (t = true → W C x Q σ) ∧ (t = false → W C y Q σ) | _ => False := Eq.trans rfl rfl
theorem W_block (id : Nat) (c : Code) : W C (.block id c) Q σ = W C c (InB id Q) σ := Eq.trans rfl rfl
theorem W_loop (c : Code) : W C (.loop c) Q σ = AWp C (.loop c) Q σ := Eq.trans rfl rfl
theorem W_exit (id : Nat) : W C (.exit id) Q σ = Q (.exit id) σ := Eq.trans rfl rfl
theorem W_ret : W C .ret Q σ = Q .ret σ := Eq.trans rfl rfl
end unfold
end Go.Proofs.YtbdogoccjcifnaaDoor
