/- Interface values: making them, and comparing them. No conditions. -/
import Derived.Test.YtaeeceabnkgnnaaDoorData
import Derived.ChangeKeysEq
set_option linter.unusedSimpArgs false
set_option linter.unusedVariables false
set_option maxRecDepth 100000
namespace Go.Proofs.YtaeeceabnkgnnaaDoor
open Go.RowKit

def notIfc (P : Program) (t : TypeId) : Bool := match P.underlying t with | some (.interface _) => false | some _ => true | none => false
def isIfc (P : Program) (t : TypeId) : Bool := match P.underlying t with | some (.interface _) => true | _ => false
def intIfc (P : Program) (t : TypeId) : Bool := match P.info? t with | some i => i.comparable && (match P.underlying t with | some (.int _) => true | _ => false) | none => false
theorem run_mkIfc {P : Program} {t : TypeId} (h : notIfc P t = true) (v : Value) (w : World) : (Instr.makeInterface t v).run P w = .ok (.iface t v) w := by
  unfold notIfc at h
  unfold Instr.makeInterface
  split at h
  · simp at h
  · rename_i d hd hu
    simp only [Sem.run_bind, run_underlying hu, Result.andThen_ok]
    simp
  · simp at h
theorem mk_ifi {C : Ctx} {t : TypeId} {x : Operand} {k : IntKind} {n : Int} {K : V → ES → Prop} {σ : ES} (ht : notIfc C.P t = true) (hx : σ.val x = .int k n) (h : K (.ifi t k n) σ) : OpN C (.makeInterface t x) K σ :=
  ⟨fun o ho => opOk_pure _ (kst h) fun a w I bl hp => ⟨.iface t (.int k n), by
    have := hp.val x
    rw [es_val, hx] at this
    simp only [execOp, ho, this.inv_int]
    simp [run_mkIfc ht], .pure _ _ (.ifi _ _ _)⟩⟩
theorem mk_ifx {C : Ctx} {t : TypeId} {x : Operand} {K : V → ES → Prop} {σ : ES} (ht : notIfc C.P t = true) (h : K .ifx σ) : OpN C (.makeInterface t x) K σ :=
  ⟨fun o ho => opOk_pure _ (kst h) fun a w I bl hp => ⟨.iface t (a.eval x), by
    simp only [execOp, ho]
    simp [run_mkIfc ht], .pure _ _ (.ifx _ _)⟩⟩
def isConst : Operand → Bool
  | .const _ => true
  | _ => false
/-- What '==' answers. -/
def cmpI (T : TypeId) (y : Operand) : V → V → Option Bool
  | .nili, .nili => if isConst y then some true else none
  | .nili, .ifi _ _ _ => some false
  | .nili, .ifx => some false
  | .ifi _ _ _, .nili => some false
  | .ifx, .nili => some false
  | .ifi t k n, .ifi t' k' n' => if t = T ∧ t' = T ∧ k = k' then some (decide (n = n')) else none
  | _, _ => none
theorem run_cmpI {C : Ctx} {T : TypeId} {op : BinOp} {t : TypeId} {x y : Operand} {vx vy : Value} {a b : V} {r : Bool} {w : World} {I : Nat → Prop} {bl : Nat → Option BI} (ht : isIfc C.P t = true) (hi : intIfc C.P T = true) (hr : cmpI T y a b = some r)
    (h1 : Rep w I bl vx a) (h2 : Rep w I bl vy b) : (eqGuard op t x y vx vy).run C.P w = .ok () w ∧ (Op.equal t vx vy).run C.P w = .ok r w ∧ ((vx = .nilIface ∨ ∃ u v, vx = .iface u v) ∧ (vy = .nilIface ∨ ∃ u v, vy = .iface u v)) := by
  obtain ⟨m, hu⟩ : ∃ m, C.P.underlying t = some (.interface m) := by
    unfold isIfc at ht
    split at ht
    · exact ⟨_, ‹_›⟩
    · simp at ht
  have hun := fun w => run_underlying (P := C.P) (w := w) hu
  unfold cmpI at hr
  split at hr
  · split at hr
    · rename_i hc
      cases hr
      rw [h1.inv_nili, h2.inv_nili]
      refine ⟨?_, ?_, .inl rfl, .inl rfl⟩
      · cases y with
        | const v => unfold eqGuard; cases op <;> simp
        | _ => simp [isConst] at hc
      · unfold Op.equal Op.maxDepth Op.equalIn
        simp only [Sem.run_bind, run_underlying hu, Result.andThen_ok]
        simp
    · cases hr
  · cases hr
    rw [h1.inv_nili, h2.inv_ifi]
    refine ⟨by unfold eqGuard; cases op <;> simp, ?_, .inl rfl, .inr ⟨_, _, rfl⟩⟩
    unfold Op.equal Op.maxDepth Op.equalIn
    simp only [Sem.run_bind, run_underlying hu, Result.andThen_ok]
    simp
  · cases hr
    obtain ⟨u, v, rfl⟩ := h2.inv_ifx
    rw [h1.inv_nili]
    refine ⟨by unfold eqGuard; cases op <;> simp, ?_, .inl rfl, .inr ⟨_, _, rfl⟩⟩
    unfold Op.equal Op.maxDepth Op.equalIn
    simp only [Sem.run_bind, run_underlying hu, Result.andThen_ok]
    simp
  · cases hr
    rw [h1.inv_ifi, h2.inv_nili]
    refine ⟨by unfold eqGuard; cases op <;> simp, ?_, .inr ⟨_, _, rfl⟩, .inl rfl⟩
    unfold Op.equal Op.maxDepth Op.equalIn
    simp only [Sem.run_bind, run_underlying hu, Result.andThen_ok]
    simp
  · cases hr
    obtain ⟨u, v, rfl⟩ := h1.inv_ifx
    rw [h2.inv_nili]
    refine ⟨by unfold eqGuard; cases op <;> simp, ?_, .inr ⟨_, _, rfl⟩, .inl rfl⟩
    unfold Op.equal Op.maxDepth Op.equalIn
    simp only [Sem.run_bind, run_underlying hu, Result.andThen_ok]
    simp
  · split at hr
    · rename_i u k n u' k' n' hc
      obtain ⟨rfl, rfl, rfl⟩ := hc
      cases hr
      rw [h1.inv_ifi, h2.inv_ifi]
      refine ⟨by unfold eqGuard; cases op <;> simp, ?_, .inr ⟨_, _, rfl⟩, .inr ⟨_, _, rfl⟩⟩
      unfold intIfc at hi
      split at hi
      · rename_i i hi2
        simp only [Bool.and_eq_true] at hi
        obtain ⟨hc, hk⟩ := hi
        split at hk
        · rename_i kk hk2
          unfold Op.equal Op.maxDepth Op.equalIn
          simp only [Sem.run_bind, run_underlying hu, Result.andThen_ok]
          simp only [ne_eq, not_true_eq_false, if_false, Sem.run_bind, run_typeInfo w hi2, Result.andThen_ok, hc, Bool.not_true, Bool.false_eq_true]
          unfold Op.equalIn
          simp only [Sem.run_bind, run_underlying hk2, Result.andThen_ok]
          simp
          rfl
        · simp at hk
      · simp at hi
    · cases hr
  · cases hr
theorem cmp_eq {C : Ctx} (T : TypeId) {t t' : TypeId} {x y : Operand} {K : V → ES → Prop} {σ : ES} (ht : isIfc C.P t = true) (hi : intIfc C.P T = true) (h0 : match cmpI T y (σ.val x) (σ.val y) with | some r => K (.bool r) σ | none => False) : OpN C (.binOp .eql t x y t') K σ := by
  split at h0
  case h_2 => exact h0.elim
  rename_i r hr
  exact ⟨fun o ho => opOk_pure _ (kst h0) fun a w I bl hp => ⟨.bool r, by
    have h1 := hp.val x
    have h2 := hp.val y
    rw [es_val] at h1 h2
    obtain ⟨hg, he, hx, hy⟩ := run_cmpI (op := .eql) (x := x) (y := y) ht hi hr h1 h2
    simp only [execOp, ho]
    have : (binOp .eql t (a.eval x) (a.eval y)).run C.P w = .ok (.bool r) w := by
      rcases hx with e1 | ⟨u, v, e1⟩ <;> rcases hy with e2 | ⟨u', v', e2⟩ <;> rw [e1, e2] at he ⊢ <;> simp [binOp, he]
    simp [hg, this], .pure _ _ (.bool _)⟩⟩
theorem cmp_ne {C : Ctx} (T : TypeId) {t t' : TypeId} {x y : Operand} {K : V → ES → Prop} {σ : ES} (ht : isIfc C.P t = true) (hi : intIfc C.P T = true) (h0 : match cmpI T y (σ.val x) (σ.val y) with | some r => K (.bool (!r)) σ | none => False) : OpN C (.binOp .neq t x y t') K σ := by
  split at h0
  case h_2 => exact h0.elim
  rename_i r hr
  exact ⟨fun o ho => opOk_pure _ (kst h0) fun a w I bl hp => ⟨.bool (!r), by
    have h1 := hp.val x
    have h2 := hp.val y
    rw [es_val] at h1 h2
    obtain ⟨hg, he, hx, hy⟩ := run_cmpI (op := .neq) (x := x) (y := y) ht hi hr h1 h2
    simp only [execOp, ho]
    have : (binOp .neq t (a.eval x) (a.eval y)).run C.P w = .ok (.bool (!r)) w := by
      rcases hx with e1 | ⟨u, v, e1⟩ <;> rcases hy with e2 | ⟨u', v', e2⟩ <;> rw [e1, e2] at he ⊢ <;> simp [binOp, he]
    simp [hg, this], .pure _ _ (.bool _)⟩⟩
end Go.Proofs.YtaeeceabnkgnnaaDoor
