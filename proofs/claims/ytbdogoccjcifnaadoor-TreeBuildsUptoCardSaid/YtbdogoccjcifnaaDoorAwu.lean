/- Abstract walk by reckoning: rules at the stops. No conditions. -/
import Derived.Test.YtbdogoccjcifnaaDoorAwt
set_option linter.unusedSimpArgs false
set_option linter.unusedVariables false
set_option maxRecDepth 100000
namespace Go.Proofs.YtbdogoccjcifnaaDoor
open Go.RowKit

section
variable {T : TT} {C : Ctx} {K : ES → Prop} {σ : ES}
/-! ### Steps of the proof alone -/
theorem up_here (h : K σ) : UpE C K σ := ⟨up_intro ⟨σ, rfl, h⟩⟩
theorem up_monoE {K' : ES → Prop} (h : UpE C K σ) (hk : ∀ σ, K σ → K' σ) : UpE C K' σ :=
  ⟨up_mono h.out fun s ⟨σ', e, h⟩ => ⟨σ', e, hk _ h⟩⟩
theorem up_eq {σ' : ES} (h : UpE C K σ') (e : σ = σ') : UpE C K σ := e ▸ h
def keepU (ks : List Nat) (u : List (Nat × V)) : List (Nat × V) := ks.map fun k => (k, lookU u k)
theorem lookU_keep (u : List (Nat × V)) (t : Nat) : ∀ ks : List Nat, lookU (keepU ks u) t = if ks.contains t then lookU u t else .any
  | [] => by simp [keepU, lookU]
  | k :: ks => by
    have ih := lookU_keep u t ks
    unfold keepU at ih ⊢
    simp only [List.map_cons, lookU, ih, List.contains_cons]
    by_cases e : t = k
    · subst e; simp
    · have h1 : Nat.beq t k = false := by
        cases hb : Nat.beq t k with
        | false => rfl
        | true => exact absurd (nbeq hb) e
      have h2 : (t == k) = false := by simpa using e
      simp [h1, h2]
/-- Only these slots are kept. -/
theorem up_to' (ks : List Nat) {n : Nat} {u : List (Nat × V)} {h : List (Option Ob)} (hk : UpE C K ⟨n, keepU ks u, h⟩) : UpE C K ⟨n, u, h⟩ := by
  refine ⟨up_keep ks ?_⟩
  have : keepFrom ks 0 (ES.env ⟨n, u, h⟩) = ES.env ⟨n, keepU ks u, h⟩ := by
    have key : ∀ (l : List Nat) (k : Nat), (∀ i x, l[i]? = some x → x = k + i) → keepFrom ks k (l.map (lookU u)) = l.map (lookU (keepU ks u)) := by
      intro l
      induction l with
      | nil => intro k _; rfl
      | cons a l ih =>
        intro k hl
        have ha : a = k := hl 0 a rfl
        subst ha
        simp only [List.map_cons, keepFrom, lookU_keep]
        rw [ih (a + 1) (fun i x hx => by have := hl (i + 1) x (by simpa using hx); omega)]
    exact key (List.range n) 0 (fun i x hx => by
      have h1 := List.getElem?_eq_some_iff.1 hx
      obtain ⟨h2, h3⟩ := h1
      simp at h3
      omega)
  show Up C (Ks K) { env := keepFrom ks 0 (ES.env ⟨n, u, h⟩), heap := h }
  rw [this]
  exact hk.out
/-- A round's end, the state in other words. -/
theorem up_at (ks : List Nat) {n : Nat} {u : List (Nat × V)} {h : List (Option Ob)} {σ' : ES} (e : (⟨n, keepU ks u, h⟩ : ES) = σ') (hk : K σ') : UpE C K ⟨n, u, h⟩ := up_to' ks (e ▸ up_here hk)

def frzU (id : Nat) (els : List V) (u : List (Nat × V)) : List (Nat × V) := u.map fun p => (p.1, p.2.frz id els)
theorem frzL_is_map (id : Nat) (els : List V) : ∀ l : List V, frzL id els l = l.map (V.frz id els)
  | [] => by simp [frzL]
  | x :: l => by simp [frzL, frzL_is_map id els l]
theorem frz_any (id : Nat) (els : List V) : V.any.frz id els = .any := by simp [V.frz]
theorem lookU_frz (id t : Nat) (els : List V) : ∀ u : List (Nat × V), lookU (frzU id els u) t = (lookU u t).frz id els
  | [] => by simp [frzU, lookU, frz_any]
  | (d, x) :: u => by
    have := lookU_frz id t els u
    unfold frzU at this ⊢
    simp only [List.map_cons, lookU]
    split
    · rfl
    · exact this
theorem env_frz (n id : Nat) (els : List V) (u : List (Nat × V)) (h h' : List (Option Ob)) : frzL id els (ES.env ⟨n, u, h⟩) = ES.env ⟨n, frzU id els u, h'⟩ := by
  rw [frzL_is_map]
  unfold ES.env
  rw [List.map_map]
  exact List.map_congr_left fun t _ => (lookU_frz id t els u).symm
/-- An object that is written no more is read-only data from here on. -/
theorem up_freeze (id : Nat) {z : Nat} {els : List V} {n : Nat} {u : List (Nat × V)} {h : List (Option Ob)} (hr : h[id]? = some (some (.row z els))) (hnr : nrL els) (hk : UpE C K ⟨n, frzU id els u, (frzH id els h).set id none⟩) : UpE C K ⟨n, u, h⟩ := by
  refine ⟨up_frz id (z := z) (els := els) (by simp [St.row, ES.st, hr]) hnr ?_⟩
  show Up C (Ks K) { env := frzL id els (ES.env ⟨n, u, h⟩), heap := (frzH id els h).set id none }
  rw [env_frz n id els u h ((frzH id els h).set id none)]
  exact hk.out
/-- An object is forgotten. -/
theorem up_drop (id : Nat) {n : Nat} {u : List (Nat × V)} {h : List (Option Ob)} (hk : UpE C K ⟨n, u.map fun p => (p.1, p.2.kill id), (killH id h).set id none⟩) : UpE C K ⟨n, u, h⟩ := by
  refine ⟨up_forget id ?_⟩
  show Up C (Ks K) { env := killL id (ES.env ⟨n, u, h⟩), heap := (killH id h).set id none }
  rw [env_kill n id u h ((killH id h).set id none)]
  exact hk.out
/-- A spare place at the heap's end is no place. -/
theorem up_short {n : Nat} {u : List (Nat × V)} {h : List (Option Ob)} (hk : UpE C K ⟨n, u, h⟩) : UpE C K ⟨n, u, h ++ [none]⟩ := ⟨up_trim hk.out⟩
theorem env_set {n d : Nat} {x : V} {u : List (Nat × V)} {h : List (Option Ob)} (h' : List (Option Ob)) : (ES.env ⟨n, u, h⟩).set d x = ES.env ⟨n, (d, x) :: u, h'⟩ := (env_cons n d x u h).symm
theorem env_get {n s : Nat} {u : List (Nat × V)} {h : List (Option Ob)} (hs : s < n) : (ES.env ⟨n, u, h⟩)[s]? = some (lookU u s) := by simp [ES.env, hs]
/-- A slot that holds nil gets an empty object. -/
theorem up_own (s z : Nat) {n : Nat} {u : List (Nat × V)} {h : List (Option Ob)} (hs : Nat.blt s n = true) (hv : lookU u s = .nils) (hk : UpE C K ⟨n, (s, .sl (freshIn h) 0 0) :: u, putOb h (.row z [])⟩) : UpE C K ⟨n, u, h⟩ := by
  refine ⟨up_adopt s z ?_ ?_⟩
  · show (ES.env ⟨n, u, h⟩)[s]? = some .nils
    rw [env_get (blt_iff.1 hs), hv]
  · show Up C (Ks K) { env := (ES.env ⟨n, u, h⟩).set s (.sl (freshIn h) 0 0), heap := putOb h (.row z []) }
    rw [env_set (putOb h (.row z []))]
    exact hk.out
/-- A slot that holds nil holds an empty list. -/
theorem up_empty (s : Nat) {n : Nat} {u : List (Nat × V)} {h : List (Option Ob)} (hs : Nat.blt s n = true) (hv : lookU u s = .nils) (hk : UpE C K ⟨n, (s, .lst []) :: u, h⟩) : UpE C K ⟨n, u, h⟩ := by
  refine ⟨up_nil s ?_ ?_⟩
  · show (ES.env ⟨n, u, h⟩)[s]? = some .nils
    rw [env_get (blt_iff.1 hs), hv]
  · show Up C (Ks K) { env := (ES.env ⟨n, u, h⟩).set s (.lst []), heap := h }
    rw [env_set h]
    exact hk.out

def evalKeep (u : List (Nat × V)) : List Nat → (List (Nat × V) → Prop) → Prop
  | [], K => K []
  | k :: ks, K => fV0 (lookU u k) fun x => evalKeep u ks fun l => K ((k, x) :: l)
theorem evalKeep_eq (u : List (Nat × V)) : ∀ (ks : List Nat) (K : List (Nat × V) → Prop), evalKeep u ks K = K (keepU ks u)
  | [], K => rfl
  | k :: ks, K => by simp only [evalKeep, fV0_eq, evalKeep_eq u ks]; rfl

mutual
def nrV : V → Bool
  | .sl _ _ _ => false
  | .ptr _ _ _ => false
  | .it _ => false
  | .agg l => nrB l
  | .fn _ l => nrB l
  | .tup l => nrB l
  | _ => true
def nrB : List V → Bool
  | [] => true
  | x :: l => nrV x && nrB l
end
theorem nrV_nr (x : V) : nrV x = true → x.nr := by
  refine V.rec (motive_1 := fun x => nrV x = true → x.nr) (motive_2 := fun l => nrB l = true → nrL l) ?_ ?_ ?_ ?_ ?_ ?_ ?_ ?_ ?_ ?_ ?_ ?_ ?_ ?_ ?_ ?_ ?_ ?_ ?_ ?_ ?_ x
  all_goals first
    | (intros; trivial)
    | (intro l ih h; exact ih h)
    | (intro f l ih h; exact ih h)
    | (intro x l ih1 ih2 h; simp only [nrB, Bool.and_eq_true] at h; exact ⟨ih1 h.1, ih2 h.2⟩)
    | (intros; simp_all [nrV])
theorem nrB_nrL : ∀ l : List V, nrB l = true → nrL l
  | [], _ => trivial
  | x :: l, h => by simp only [nrB, Bool.and_eq_true] at h; exact ⟨nrV_nr x h.1, nrB_nrL l h.2⟩
/-- Where no kept slot names an object, the objects may go. -/
theorem up_wipe (ks : List Nat) {n : Nat} {u : List (Nat × V)} {h : List (Option Ob)} (hn : (ks.all fun k => nrV (lookU u k)) = true) (hk : UpE C K ⟨n, keepU ks u, []⟩) : UpE C K ⟨n, u, h⟩ := by
  refine up_to' ks ?_
  refine ⟨up_of_rel (fun a w hr => ?_) hk.out⟩
  obtain ⟨I, bl, hp⟩ := hr.parts
  have hnr : ∀ (i : Nat) (x : V), (ES.env ⟨n, keepU ks u, h⟩)[i]? = some x → x.nr := by
    intro i x hx
    unfold ES.env at hx
    rw [List.getElem?_map, Option.map_eq_some_iff] at hx
    obtain ⟨t, _, rfl⟩ := hx
    rw [lookU_keep]
    split
    · rename_i hc
      exact nrV_nr _ (List.all_eq_true.1 hn t (by simpa using hc))
    · trivial
  refine RP.rel (I := I) (bl := fun _ => none) ⟨hp.defers, ⟨by have := hp.env.1; simpa [ES.st, ES.env] using this, fun i v x hv hx => .pure _ _ ((hp.env.2 i v x hv hx).pr (hnr i x hx))⟩, ⟨?_, ?_, ?_, ?_, hp.heap.imm, hp.heap.kept⟩⟩
  · intro id o ho; simp [ES.st] at ho
  · intro id i hi; cases hi
  · intro id id' i i' b hi; cases hi
  · intro id i b hi; cases hi

def trimH : List (Option Ob) → List (Option Ob)
  | [] => []
  | some o :: r => some o :: trimH r
  | none :: r => match trimH r with
    | [] => []
    | x :: r' => none :: x :: r'
theorem trimH_get : ∀ (h : List (Option Ob)) (i : Nat) (o : Ob), (trimH h)[i]? = some (some o) ↔ h[i]? = some (some o)
  | [], i, o => by simp [trimH]
  | some x :: r, 0, o => by simp [trimH]
  | some x :: r, i + 1, o => by simpa [trimH] using trimH_get r i o
  | none :: r, 0, o => by
    simp only [trimH]
    split <;> simp
  | none :: r, i + 1, o => by
    have ih := trimH_get r i o
    simp only [trimH]
    split
    · rename_i e
      rw [e] at ih
      simp at ih ⊢
      exact ih
    · rename_i x r' e
      rw [e] at ih
      simpa using ih
theorem up_trimE {n : Nat} {u : List (Nat × V)} {h : List (Option Ob)} (hk : UpE C K ⟨n, u, trimH h⟩) : UpE C K ⟨n, u, h⟩ := by
  refine ⟨up_of_rel (fun a w hr => ?_) hk.out⟩
  obtain ⟨I, bl, hp⟩ := hr.parts
  refine RP.rel (I := I) (bl := bl) ⟨hp.defers, hp.env, ⟨fun id o ho => hp.heap.obj id o ((trimH_get h id o).1 ho), fun id i hi => ?_, hp.heap.apart, hp.heap.own, hp.heap.imm, hp.heap.kept⟩⟩
  obtain ⟨o, ho⟩ := hp.heap.live id i hi
  exact ⟨o, (trimH_get h id o).2 ho⟩
def dropU : List Nat → List (Nat × V) → List (Nat × V)
  | [], u => u
  | a :: M, u => dropU M (u.map fun p => (p.1, p.2.kill a))
def dropH : List Nat → List (Option Ob) → List (Option Ob)
  | [], h => h
  | a :: M, h => dropH M ((killH a h).set a none)
theorem up_drops : ∀ (M : List Nat) {n : Nat} {u : List (Nat × V)} {h : List (Option Ob)}, UpE C K ⟨n, dropU M u, dropH M h⟩ → UpE C K ⟨n, u, h⟩
  | [], _, _, _, hk => hk
  | a :: M, _, _, _, hk => up_drop a (up_drops M hk)

/-! ### Loops -/
theorem up_weak {K' : St → Prop} (h : UpE C K σ) (hk : ∀ σ, K σ → K' σ.st) : Up C K' σ.st :=
  up_mono h.out fun s ⟨σ', e, h⟩ => e ▸ hk _ h
/-- The state stands at the family's place b. -/
def At {β : Type} (S : β → ES) (b : β) (σ : ES) : Prop := σ = S b
/-- The state stands at a later place of the family. -/
def Next {β : Type} (S : β → ES) (P : β → Prop) (μ : β → Nat) (b : β) (σ : ES) : Prop := ∃ b', P b' ∧ μ b' < μ b ∧ σ = S b'
/-- A loop: a family of states, what holds of them, a measure that each round lowers. -/
theorem loopE {β : Type} (S : β → ES) (P : β → Prop) (μ : β → Nat) (b0 : β) {c : Code} {Q : Exit → ES → Prop} (hE : EOk T C) (hc : codeOk c = true) (h0 : UpE C (At S b0) σ) (hp : P b0)
    (round : ∀ b, P b → eCode T C c (fun e σ' => match e with
      | .normal => UpE C (Next S P μ b) σ'
      | e => Q e σ') (S b)) : LoopE T C c Q σ := by
  refine ⟨?_⟩
  intro a w hr
  obtain ⟨s1, ⟨σ1, e1, h1⟩, hr1⟩ := h0.out a w hr
  subst e1
  subst h1
  refine wp_loop_rel (fun n a w => ∃ b, P b ∧ μ b = n ∧ Rel C (S b).st a w) (μ b0) ⟨b0, hp, rfl, hr1⟩ ?_
  rintro n a w ⟨b, hb, rfl, hr2⟩
  refine wp_mono (eCode_ok hE c hc _ _ (round b hb) a w hr2) ?_
  rintro e a' w' ⟨s', ⟨σ', rfl, h1⟩, h2⟩
  cases e with
  | normal =>
    obtain ⟨s3, ⟨σ3, rfl, b', h3, h4, rfl⟩, h5⟩ := h1.out a' w' h2
    exact ⟨_, h4, b', h3, rfl, h5⟩
  | exit id => exact ⟨_, qst_exit h1, h2⟩
  | goto l => exact ⟨_, qst_exit h1, h2⟩
  | ret => exact ⟨_, qst_exit h1, h2⟩
  | panic ch => exact ⟨_, qst_exit h1, h2⟩
  | outgrown => exact ⟨_, qst_exit h1, h2⟩

theorem at_keep {β : Type} {S : β → ES} {b : β} (ks : List Nat) {n : Nat} {u : List (Nat × V)} {h : List (Option Ob)} (e : evalKeep u ks fun u' => fH h fun h' => (⟨n, u', h'⟩ : ES) = S b) : UpE C (At S b) ⟨n, u, h⟩ := by
  rw [evalKeep_eq, fH_eq] at e
  exact up_at ks e rfl
theorem next_keep {β : Type} {S : β → ES} {P : β → Prop} {μ : β → Nat} {b : β} (ks : List Nat) (b' : β) {n : Nat} {u : List (Nat × V)} {h : List (Option Ob)} (hp : P b') (hm : μ b' < μ b) (e : evalKeep u ks fun u' => fH h fun h' => (⟨n, u', h'⟩ : ES) = S b') : UpE C (Next S P μ b) ⟨n, u, h⟩ := by
  rw [evalKeep_eq, fH_eq] at e
  exact up_at ks e ⟨b', hp, hm, rfl⟩

theorem next_wipe {β : Type} {S : β → ES} {P : β → Prop} {μ : β → Nat} {b : β} (ks : List Nat) (b' : β) {n : Nat} {u : List (Nat × V)} {h : List (Option Ob)} (hn : (ks.all fun k => nrV (lookU u k)) = true) (hp : P b') (hm : μ b' < μ b) (e : evalKeep u ks fun u' => (⟨n, u', []⟩ : ES) = S b') : UpE C (Next S P μ b) ⟨n, u, h⟩ := by
  rw [evalKeep_eq] at e
  exact up_wipe ks hn (e ▸ up_here ⟨b', hp, hm, rfl⟩)
/-- Some objects are forgotten; those slots are kept. -/
theorem next_drop {β : Type} {S : β → ES} {P : β → Prop} {μ : β → Nat} {b : β} (ks : List Nat) (M : List Nat) (b' : β) {n : Nat} {u : List (Nat × V)} {h : List (Option Ob)} (hp : P b') (hm : μ b' < μ b) (e : evalKeep (dropU M u) ks fun u' => fH (trimH (dropH M h)) fun h' => (⟨n, u', h'⟩ : ES) = S b') : UpE C (Next S P μ b) ⟨n, u, h⟩ := by
  rw [evalKeep_eq, fH_eq] at e
  exact up_drops M (up_to' ks (up_trimE (e ▸ up_here ⟨b', hp, hm, rfl⟩)))
theorem at_drop {β : Type} {S : β → ES} {b : β} (ks : List Nat) (M : List Nat) {n : Nat} {u : List (Nat × V)} {h : List (Option Ob)} (e : evalKeep (dropU M u) ks fun u' => fH (trimH (dropH M h)) fun h' => (⟨n, u', h'⟩ : ES) = S b) : UpE C (At S b) ⟨n, u, h⟩ := by
  rw [evalKeep_eq, fH_eq] at e
  exact up_drops M (up_to' ks (up_trimE (e ▸ up_here rfl)))
theorem at_wipe {β : Type} {S : β → ES} {b : β} (ks : List Nat) {n : Nat} {u : List (Nat × V)} {h : List (Option Ob)} (hn : (ks.all fun k => nrV (lookU u k)) = true) (e : evalKeep u ks fun u' => (⟨n, u', []⟩ : ES) = S b) : UpE C (At S b) ⟨n, u, h⟩ := by
  rw [evalKeep_eq] at e
  exact up_wipe ks hn (e ▸ up_here rfl)

/-! ### Calls -/

def evalC (σ : ES) (fop : Operand) (args : List Operand) : Option (FuncId × List V) := match σ.val fop with | .fn f caps => some (f, args.map σ.val ++ caps) | _ => none
theorem evalC_spec {fop : Operand} {args : List Operand} {f : FuncId} {xs : List V} (h : evalC σ fop args = some (f, xs)) : ∃ caps, σ.st.val fop = .fn f caps ∧ args.map σ.st.val ++ caps = xs := by
  unfold evalC at h
  split at h
  · rename_i f' caps hf
    simp only [Option.some.injEq, Prod.mk.injEq] at h
    obtain ⟨rfl, rfl⟩ := h
    exact ⟨caps, by rw [es_val, hf], by rw [map_val]⟩
  · cases h
theorem nrB_append : ∀ a b : List V, nrB (a ++ b) = (nrB a && nrB b)
  | [], b => by simp [nrB]
  | x :: a, b => by simp only [List.cons_append, nrB, nrB_append a b, Bool.and_assoc]
theorem nrB_tail {a b : List V} (ha : nrB a = true) (hb : nrB b = true) : nrB (a ++ b) = true := by rw [nrB_append, ha, hb]; rfl
theorem nrB_fn {x : V} {f : FuncId} {c : List V} (hx : nrV x = true) (hc : nrB c = true) : nrB ([x, .fn f c] ++ []) = true := by simp [nrB, nrV, hx, hc]
/-- A call by its contract. -/
theorem call_fn {P : Program} {fop : Operand} {args : List Operand} {f : FuncId} {xs : List V} {R : V → Prop} {K : V → ES → Prop} (h : Fn1 P f xs R) (hC : C.P = P) (hb : hasBody P f = true) (he : evalC σ fop args = some (f, xs)) (hn : nrB xs = true) (hk : ∀ r, R r → K r σ) : CallN C fop args f xs K σ := by
  subst hC
  obtain ⟨caps, h1, h2⟩ := evalC_spec he
  refine ⟨up_intro ?_⟩
  unfold CallAt
  rw [h1]
  simp only
  rw [h2]
  exact ⟨hb, acall_fn1 h (nrB_nrL _ hn) fun r hr => kst (hk r hr)⟩
theorem call_eq {P : Program} {fop : Operand} {args : List Operand} {f : FuncId} {xs : List V} {r : V} {K : V → ES → Prop} (h : Fn1 P f xs (fun r' => r' = r)) (hC : C.P = P) (hb : hasBody P f = true) (he : evalC σ fop args = some (f, xs)) (hn : nrB xs = true) (hk : K r σ) : CallN C fop args f xs K σ :=
  call_fn h hC hb he hn fun r' e => e ▸ hk
theorem call_as {P : Program} {fop : Operand} {args : List Operand} {f : FuncId} {xs xs' : List V} {r : V} {K : V → ES → Prop} (h : Fn1 P f xs' (fun r' => r' = r)) (hC : C.P = P) (hb : hasBody P f = true) (e : xs = xs') (he : evalC σ fop args = some (f, xs)) (hn : nrB xs = true) (hk : K r σ) : CallN C fop args f xs K σ :=
  call_eq (e ▸ h) hC hb he hn hk
theorem callq_as {P : Program} {fop : Operand} {args : List Operand} {f : FuncId} {xs xs' : List V} {r : V} {K : V → ES → Prop} (h : Fn1 P f xs' (fun r' => r' = r)) (hC : C.P = P) (hb : hasBody P f = true) (e : xs = xs') (he : evalC σ fop args = some (f, xs)) (hn : nrB xs = true) (hk : K r σ) : CallNQ C fop args f xs K σ := by
  subst e
  subst hC
  obtain ⟨caps, h1, h2⟩ := evalC_spec he
  refine ⟨?_⟩
  unfold CallQ
  rw [h1]
  simp only
  rw [h2]
  exact ⟨hb, .inl ⟨nrB_nrL _ hn, r, h.c, kst hk⟩⟩
theorem callq_eq {P : Program} {fop : Operand} {args : List Operand} {f : FuncId} {xs : List V} {r : V} {K : V → ES → Prop} (h : Fn1 P f xs (fun r' => r' = r)) (hC : C.P = P) (hb : hasBody P f = true) (he : evalC σ fop args = some (f, xs)) (hn : nrB xs = true) (hk : K r σ) : CallNQ C fop args f xs K σ := by
  subst hC
  obtain ⟨caps, h1, h2⟩ := evalC_spec he
  refine ⟨?_⟩
  unfold CallQ
  rw [h1]
  simp only
  rw [h2]
  exact ⟨hb, .inl ⟨nrB_nrL _ hn, r, h.c, kst hk⟩⟩
/-- Calls by a contract at the walk's own worlds. -/
theorem callc_eq {P : Program} {fop : Operand} {args : List Operand} {f : FuncId} {xs xs' : List V} {r : V} {K : V → ES → Prop} (h : FnC C f xs' (fun r' => r' = r)) (hC : C.P = P) (hb : hasBody P f = true) (e : xs = xs') (he : evalC σ fop args = some (f, xs)) (hn : nrB xs = true) (hk : K r σ) : CallN C fop args f xs K σ := by
  subst hC
  subst e
  obtain ⟨caps, h1, h2⟩ := evalC_spec he
  refine ⟨up_intro ?_⟩
  unfold CallAt
  rw [h1]
  simp only
  rw [h2]
  exact ⟨hb, acall_fnC h (nrB_nrL _ hn) fun r' e => e ▸ kst hk⟩
theorem callcq_eq {P : Program} {fop : Operand} {args : List Operand} {f : FuncId} {xs xs' : List V} {r : V} {K : V → ES → Prop} (h : FnC C f xs' (fun r' => r' = r)) (hC : C.P = P) (hb : hasBody P f = true) (e : xs = xs') (he : evalC σ fop args = some (f, xs)) (hn : nrB xs = true) (hk : K r σ) : CallNQ C fop args f xs K σ := by
  subst e
  subst hC
  obtain ⟨caps, h1, h2⟩ := evalC_spec he
  refine ⟨?_⟩
  unfold CallQ
  rw [h1]
  simp only
  rw [h2]
  exact ⟨hb, .inl ⟨nrB_nrL _ hn, r, h, kst hk⟩⟩
/-- Between two parts of a region that draws its order. -/
theorem seg_here {K : ES → Prop} (h : K σ) : SegUp C K σ := ⟨up_here h⟩
theorem both {A B : Prop} (a : A) (b : B) : Both A B := ⟨a, b⟩
theorem seg_up {K : ES → Prop} (h : UpE C K σ) : SegUp C K σ := ⟨h⟩
/-- Steps of the proof alone ahead of a call. -/
theorem call_up {fop : Operand} {args : List Operand} {f : FuncId} {xs : List V} {K : V → ES → Prop} (h : UpE C (fun σ' => eCall C false fop args K σ') σ) : CallN C fop args f xs K σ := by
  refine ⟨?_⟩
  intro a w hr
  obtain ⟨s, ⟨σ', rfl, h1⟩, hr'⟩ := h.out a w hr
  exact (eCall_ok h1).1 rfl a w hr'

/-! ### The end -/
structure RetN (T : TT) (C : Ctx) (fn : Func) (R : V → Prop) (σ : ES) : Prop where
  out : RetQ C fn R .ret σ.st
def RetE (T : TT) (C : Ctx) (fn : Func) (R : V → Prop) (e : Exit) (σ : ES) : Prop :=
  match e with
  | .normal => RetN T C fn R σ
  | .ret => RetN T C fn R σ
  | _ => False
def eRess (T : TT) (σ : ES) : List ResultVar → (List V → Prop) → Prop
  | [], K => K []
  | .tmp t :: l, K => fV (σ.get t) fun x => eRess T σ l fun r => K (x :: r)
  | .cell a t :: l, K => eLoad T σ t (σ.get a) fun x => fV x fun x => eRess T σ l fun r => K (x :: r)
theorem eRess_elim (hT : T.All C.P) : ∀ (l : List ResultVar) (k : List V → Prop), eRess T σ l k → (∀ r ∈ l, resGood C.P σ.st r) ∧ k (l.map (resOf C.P σ.st))
  | [], k, h => ⟨fun r hr => by simp at hr, h⟩
  | .tmp t :: l, k, h => by
    simp only [eRess, fV_eq] at h
    obtain ⟨h1, h2⟩ := eRess_elim hT l _ h
    refine ⟨fun r hr => ?_, ?_⟩
    · rcases List.mem_cons.1 hr with rfl | hr
      · trivial
      · exact h1 r hr
    · simp only [List.map_cons, resOf]
      rw [show σ.st.env.getD t .any = σ.get t from es_getD σ t]
      exact h2
  | .cell a t :: l, k, h => by
    simp only [eRess, fV_eq] at h
    have key : resGood C.P σ.st (.cell a t) ∧ eRess T σ l fun r => k (resOf C.P σ.st (.cell a t) :: r) := by
      simp only [resGood, resOf]
      unfold eLoad at h
      simp only [show σ.st.env.getD a .any = σ.get a from es_getD σ a]
      split at h
      · rename_i b n ht
        have h := br_only h
        have hti := oeq_some (TT.ok hT t).ti ht
        have hbn := bn1 h.1
        have h2 := h.2
        rw [hti]
        simp only
        split at h2
        · rename_i l' hv
          have h2 := br_only h2
          have hn : n ≤ l'.length := by simpa using h2.1
          simp only [hv]
          rw [if_pos ⟨hbn, hn⟩]
          exact ⟨⟨hbn, hn⟩, h2.2⟩
        · rename_i id i j hv
          obtain ⟨z', els, hr, h2⟩ := eRow_elim h2
          obtain ⟨x, g1, g2⟩ := get_elim h2
          have g2 := br_only g2
          have hn : j + n ≤ x.cells.length := by simpa using g2.1
          simp only [hv, hr, g1]
          rw [if_pos ⟨hbn, hn⟩]
          exact ⟨⟨hbn, hn⟩, g2.2⟩
        · exact h2.elim
      · exact h.elim
    obtain ⟨h0, h⟩ := key
    obtain ⟨h1, h2⟩ := eRess_elim hT l _ h
    refine ⟨fun r hr => ?_, h2⟩
    rcases List.mem_cons.1 hr with rfl | hr
    · exact h0
    · exact h1 r hr
def eRes1 (l : List V) (K : V → Prop) : Prop := match l with
  | [] => K (.tup [])
  | x :: r => match r with
    | [] => K x
    | y :: r => K (.tup (x :: y :: r))
theorem ret_now {fn : Func} {R : V → Prop} (hE : EOk T C) (h : eRess T σ fn.results.toList fun l => eRes1 l fun r => nrV r = true ∧ R r) : RetN T C fn R σ := by
  refine ⟨?_⟩
  rw [RetQ_ret]
  obtain ⟨h1, h2⟩ := eRess_elim hE.all _ _ h
  refine up_intro ⟨h1, ?_⟩
  unfold resA
  generalize fn.results.toList = l at h2
  match l, h2 with
  | [], h2 => exact ⟨nrV_nr _ h2.1, h2.2⟩
  | [r], h2 => exact ⟨nrV_nr _ h2.1, h2.2⟩
  | r :: r' :: l, h2 => exact ⟨nrV_nr _ h2.1, h2.2⟩
theorem ret_up {fn : Func} {R : V → Prop} (h : UpE C (RetN T C fn R) σ) : RetN T C fn R σ := by
  refine ⟨?_⟩
  rw [RetQ_ret]
  intro a w hr
  obtain ⟨s, ⟨σ', rfl, h1⟩, hr'⟩ := h.out a w hr
  have := h1.out
  rw [RetQ_ret] at this
  exact this a w hr'

def argU : Nat → List V → List (Nat × V)
  | _, [] => []
  | k, x :: l => (k, x) :: argU (k + 1) l
theorem lookU_arg (l : List V) : ∀ (k t : Nat), lookU (argU k l) (k + t) = l.getD t .any := by
  induction l with
  | nil => intro k t; simp [argU, lookU]
  | cons x l ih =>
    intro k t
    simp only [argU, lookU]
    cases t with
    | zero => simp
    | succ t =>
      have h1 : Nat.beq (k + (t + 1)) k = false := by
        cases hb : Nat.beq (k + (t + 1)) k with
        | false => rfl
        | true => have := nbeq hb; omega
      rw [h1]
      have := ih (k + 1) t
      rw [show k + (t + 1) = k + 1 + t by omega]
      simpa using this
/-- A function of read-only data, walked. -/
theorem fn1GE {P : Program} {G : World → Prop} {f : FuncId} {fn : Func} {c : Code} {args : List V} {R : V → Prop} (hf : P.funcs[f]? = some fn) (hb : fn.body = some c) (hall : T.All P) (hany : P.follows .mixedOrders = true) (hc : codeOk c = true) (hn : args.length ≤ fn.ntmps)
    (h : ∀ C : Ctx, C.P = P → C.E = (fun _ => False) → G C.W0 → EOk T C → eCode T C c (RetE T C fn R) ⟨fn.ntmps, argU 0 args, []⟩) : Fn1G P G f args R := by
  refine fn1g_of_awp hf hb fun C hC hW hG => ?_
  have hE : EOk T C := ⟨hC ▸ hall, hC ▸ hany⟩
  have h1 := eCode_ok hE c hc _ _ (h C hC hW hG hE)
  have he : (⟨fn.ntmps, argU 0 args, []⟩ : ES).st = { env := args ++ List.replicate (fn.ntmps - args.length) .any, heap := [] } := by
    unfold ES.st ES.env
    congr 1
    apply List.ext_getElem?
    intro i
    rw [List.getElem?_map]
    by_cases hi : i < fn.ntmps
    · rw [List.getElem?_range hi]
      simp only [Option.map_some]
      have := lookU_arg args 0 i
      rw [Nat.zero_add] at this
      rw [this]
      by_cases h2 : i < args.length
      · rw [List.getElem?_append_left h2]; simp [List.getD, h2]
      · rw [List.getElem?_append_right (Nat.le_of_not_lt h2), List.getElem?_replicate]
        rw [if_pos (by omega)]
        simp [List.getD, List.getElem?_eq_none (Nat.le_of_not_lt h2)]
    · rw [List.getElem?_eq_none (by simp; omega)]
      rw [List.getElem?_eq_none (by simp; omega)]
      rfl
  rw [← he]
  refine awp_mono h1 ?_
  rintro e s ⟨σ, rfl, h⟩
  cases e with
  | normal => exact h.out
  | ret => exact h.out
  | exit id => exact h.elim
  | goto l => exact h.elim
  | panic ch => exact h.elim
  | outgrown => exact h.elim
theorem fn1E {P : Program} {f : FuncId} {fn : Func} {c : Code} {args : List V} {R : V → Prop} (hf : P.funcs[f]? = some fn) (hb : fn.body = some c) (hall : T.All P) (hany : P.follows .mixedOrders = true) (hc : codeOk c = true) (hn : args.length ≤ fn.ntmps)
    (h : ∀ C : Ctx, C.P = P → EOk T C → eCode T C c (RetE T C fn R) ⟨fn.ntmps, argU 0 args, []⟩) : Fn1 P f args R :=
  fun w I vs => fn1GE (G := fun _ => True) hf hb hall hany hc hn (fun C hC _ _ hE => h C hC hE) w I vs trivial
end
/-! ### Tests -/
theorem br_d {p : Prop} [Decidable p] {A B : Prop} (h1 : p → A) (h2 : ¬ p → B) : Br (decide p) A B := br (fun h => h1 (of_decide_eq_true h)) (fun h => h2 (of_decide_eq_false h))
theorem br_dt {p : Prop} [Decidable p] {A B : Prop} (h : p) (k : A) : Br (decide p) A B := br_t (decide_eq_true h) k
theorem br_df {p : Prop} [Decidable p] {A B : Prop} (h : ¬ p) (k : B) : Br (decide p) A B := br_f (decide_eq_false h) k
theorem get_map {α : Type} {f : α → V} {l : List α} {i : Nat} {x : α} {A : V → Prop} (h : l[i]? = some x) (k : A (f x)) : Get ((l.map f)[i]?) A := get_of (by rw [List.getElem?_map, h]; rfl) k
theorem get_lt {α : Type} {l : List α} {i : Nat} {A : α → Prop} (h : i < l.length) (k : A l[i]) : Get l[i]? A := get_of (List.getElem?_eq_getElem h) k
end Go.Proofs.YtbdogoccjcifnaaDoor
