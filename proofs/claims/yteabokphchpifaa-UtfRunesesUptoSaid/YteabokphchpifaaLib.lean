/- Data as values; small lemmas for loops and ends. No conditions. -/
import Derived.Test.YteabokphchpifaaTypes
set_option linter.unusedSimpArgs false
set_option linter.unusedVariables false
namespace Go.Proofs.Yteabokphchpifaa
open Go.RowKit

def ints (l : List Int) : V := .lst (l.map (V.int .i64))
theorem ret1 {C : Ctx} {fn : Func} {R : V → Prop} {env : List V} {h : List (Option Ob)} {t : Nat} (hres : fn.results = #[.tmp t]) {x : V} (hx : env.getD t .any = x) (hn : x.nr) (hR : R x) : RetQ C fn R .ret ⟨env, h⟩ := by
  subst hx
  rw [RetQ_ret]
  refine up_intro ⟨fun r hr => ?_, ?_, ?_⟩
  · rw [hres] at hr
    simp at hr
    subst hr
    trivial
  · rw [hres]; exact hn
  · rw [hres]; exact hR
theorem ret2 {C : Ctx} {fn : Func} {R : V → Prop} {env : List V} {h : List (Option Ob)} {t u : Nat} (hres : fn.results = #[.tmp t, .tmp u]) {x y : V} (hx : env.getD t .any = x) (hy : env.getD u .any = y) (hn : x.nr) (hn' : y.nr) (hR : R (.tup [x, y])) : RetQ C fn R .ret ⟨env, h⟩ := by
  subst hx; subst hy
  rw [RetQ_ret]
  refine up_intro ⟨fun r hr => ?_, ?_, ?_⟩
  · rw [hres] at hr
    simp at hr
    rcases hr with rfl | rfl <;> trivial
  · rw [hres]; exact ⟨hn, hn', trivial⟩
  · rw [hres]; exact hR
theorem ret1u {C : Ctx} {fn : Func} {R : V → Prop} {l : List V} {u : List (Nat × V)} {h : List (Option Ob)} {t : Nat} (hres : fn.results = #[.tmp t]) {x : V} (hx : look l t u = x) (hn : x.nr) (hR : R x) : RetQ C fn R .ret ⟨ups l u, h⟩ :=
  ret1 hres (by rw [ups_get]; exact hx) hn hR
theorem ret2u {C : Ctx} {fn : Func} {R : V → Prop} {l : List V} {u : List (Nat × V)} {h : List (Option Ob)} {t s : Nat} (hres : fn.results = #[.tmp t, .tmp s]) {x y : V} (hx : look l t u = x) (hy : look l s u = y) (hn : x.nr) (hn' : y.nr) (hR : R (.tup [x, y])) : RetQ C fn R .ret ⟨ups l u, h⟩ :=
  ret2 hres (by rw [ups_get]; exact hx) (by rw [ups_get]; exact hy) hn hn' hR
theorem wrap_succ (k : Nat) (h : k < 9223372036854775807) : IntKind.i64.wrap ((k : Int) + 1) = ((k + 1 : Nat) : Int) := by
  rw [wrap_in _ (by omega) (by omega)]; omega
theorem maxLen_eq : maxLen = 9223372036854775807 := rfl
theorem nr_ints (l : List Int) : (ints l).nr := trivial
def idxOf {α : Type} (p : α → Bool) (l : List α) : Int := match l.findIdx? p with | some i => i | none => -1
theorem idxOf_hit {α : Type} {p : α → Bool} {l : List α} {k : Nat} {x : α} (hx : l[k]? = some x) (hp : p x = true) (hj : ∀ j < k, ∀ x, l[j]? = some x → p x = false) : idxOf p l = k := by
  have : l.findIdx? p = some k := by
    rw [List.findIdx?_eq_some_iff_getElem]
    obtain ⟨hlt, rfl⟩ := List.getElem?_eq_some_iff.1 hx
    exact ⟨hlt, hp, fun j hjk => by simp [hj j hjk _ (List.getElem?_eq_getElem (by omega))]⟩
  unfold idxOf
  rw [this]
theorem idxOf_miss {α : Type} {p : α → Bool} {l : List α} (h : ∀ x ∈ l, p x = false) : idxOf p l = -1 := by
  have : l.findIdx? p = none := by rw [List.findIdx?_eq_none_iff]; exact h
  unfold idxOf
  rw [this]
theorem idxOf_any {α : Type} (p : α → Bool) (l : List α) : decide (0 ≤ idxOf p l) = l.any p := by
  unfold idxOf
  cases h : l.findIdx? p with
  | none =>
    have := List.findIdx?_eq_none_iff.1 h
    have h2 : l.any p = false := by rw [List.any_eq_false]; intro x hx; simp [this x hx]
    rw [h2]; rfl
  | some i =>
    obtain ⟨hlt, hp, _⟩ := List.findIdx?_eq_some_iff_getElem.1 h
    have h2 : l.any p = true := by rw [List.any_eq_true]; exact ⟨_, List.getElem_mem hlt, hp⟩
    rw [h2]
    exact decide_eq_true (by show (0 : Int) ≤ (i : Int); omega)
theorem up_to {C : Ctx} {T : St → Prop} {env : List V} {h : List (Option Ob)} (ks : List Nat) (l : List V) (hl : keepFrom ks 0 env = l) (k : Up C T ⟨l, h⟩) : Up C T ⟨env, h⟩ :=
  up_keep ks (by subst hl; exact k)
/-- Where no slot holds a place, the objects may go. -/
theorem up_clear {C : Ctx} {T : St → Prop} {env : List V} {h : List (Option Ob)} (hn : nrL env) (k : Up C T ⟨env, []⟩) : Up C T ⟨env, h⟩ := by
  refine up_of_rel (fun a w hr => ?_) k
  obtain ⟨I, bl, hp⟩ := hr.parts
  refine RP.rel (I := I) (bl := fun _ => none) ⟨hp.defers, ⟨hp.env.1, fun i v x hv hx => .pure _ _ ((hp.env.2 i v x hv hx).pr (nrL_get env i x hn hx))⟩, ⟨?_, ?_, ?_, ?_, hp.heap.imm, hp.heap.kept⟩⟩
  · intro id o ho; simp at ho
  · intro id i hi; cases hi
  · intro id id' i i' b hi; cases hi
  · intro id i b hi; cases hi
/-- An object to which nothing refers may go; it stands last. -/
theorem up_drop {C : Ctx} {T : St → Prop} {env : List V} {h h' : List (Option Ob)} (id : Nat) (he : killL id env = env) (hh : (killH id h).set id none = h' ++ [none]) (k : Up C T ⟨env, h'⟩) : Up C T ⟨env, h⟩ := by
  refine up_forget id ?_
  simp only
  rw [he, hh]
  exact up_trim k
theorem call1 {C : Ctx} {P : Program} (hC : C.P = P) {f : FuncId} {fop : Operand} {args : List Operand} (caps xs : List V) {R : V → Prop} {K : V → St → Prop} {σ : St} (hb : hasBody P f = true) (h : Fn1 P f xs R) (hv : σ.val fop = .fn f caps) (hxs : args.map σ.val ++ caps = xs) (hx : nrL xs) (hk : ∀ r, R r → K r σ) : Up C (CallAt C fop args K) σ := by
  subst hC
  refine up_intro ?_
  unfold CallAt
  rw [hv]
  simp only
  rw [hxs]
  exact ⟨hb, acall_fn1 h hx hk⟩
theorem callQ1 {C : Ctx} {P : Program} (hC : C.P = P) {f : FuncId} {fop : Operand} {args : List Operand} (caps xs : List V) {r : V} {K : V → St → Prop} {σ : St} (hb : hasBody P f = true) (h : Fn1 P f xs (fun r' => r' = r)) (hv : σ.val fop = .fn f caps) (hxs : args.map σ.val ++ caps = xs) (hx : nrL xs) (hk : K r σ) : CallQ C fop args K σ := by
  subst hC
  unfold CallQ
  rw [hv]
  simp only
  rw [hxs]
  exact ⟨hb, hx, r, h, hk⟩

/-- The same two, with what the goal tells behind what the caller says: 'have c := callN ..; refine c _ _ _ _ ?_ ?_ ?_ ?_' is taken at once, where 'refine call1 ..' may run for minutes. -/
theorem callN {C : Ctx} {P : Program} (hC : C.P = P) {f : FuncId} (caps xs : List V) {R : V → Prop} (hb : hasBody P f = true) (h : Fn1 P f xs R) (fop : Operand) (args : List Operand) (K : V → St → Prop) (σ : St)
    (hv : σ.val fop = .fn f caps) (hxs : args.map σ.val ++ caps = xs) (hx : nrL xs) (hk : ∀ r, R r → K r σ) : Up C (CallAt C fop args K) σ := call1 hC caps xs hb h hv hxs hx hk
theorem callQ {C : Ctx} {P : Program} (hC : C.P = P) {f : FuncId} (caps xs : List V) {r : V} (hb : hasBody P f = true) (h : Fn1 P f xs (fun r' => r' = r)) (fop : Operand) (args : List Operand) (K : V → St → Prop) (σ : St)
    (hv : σ.val fop = .fn f caps) (hxs : args.map σ.val ++ caps = xs) (hx : nrL xs) (hk : K r σ) : CallQ C fop args K σ := callQ1 hC caps xs hb h hv hxs hx hk
theorem ret_frz {C : Ctx} {fn : Func} {R : V → Prop} {σ : St} (id : Nat) {z : Nat} {els : List V} (hrow : σ.row id = some (z, els)) (hnr : nrL els) (h : RetQ C fn R .ret (σ.frz id els)) : RetQ C fn R .ret σ :=
  up_frz id hrow hnr h

/-! ### Freezing, step by step -/
section
variable (id : Nat) (els : List V)
theorem frz_lst (l : List V) : (V.lst l).frz id els = .lst l := by simp [V.frz]
theorem frz_int (k : IntKind) (n : Int) : (V.int k n).frz id els = .int k n := by simp [V.frz]
theorem frz_bool (b : Bool) : (V.bool b).frz id els = .bool b := by simp [V.frz]
theorem frz_str (s : List UInt8) : (V.str s).frz id els = .str s := by simp [V.frz]
theorem frz_any : V.any.frz id els = .any := by simp [V.frz]
theorem frz_nils : V.nils.frz id els = .nils := by simp [V.frz]
theorem frz_nilp : V.nilp.frz id els = .nilp := by simp [V.frz]
theorem frz_rp (l : List V) : (V.rp l).frz id els = .rp l := by simp [V.frz]
theorem frz_agg (l : List V) : (V.agg l).frz id els = .agg (frzL id els l) := by simp [V.frz]
theorem frz_tup (l : List V) : (V.tup l).frz id els = .tup (frzL id els l) := by simp [V.frz]
theorem frz_fn (f : FuncId) (l : List V) : (V.fn f l).frz id els = .fn f (frzL id els l) := by simp [V.frz]
theorem frz_ptr (i a b : Nat) : (V.ptr i a b).frz id els = if i = id then (match els[a]? with | some x => .rp (x.cells.drop b) | none => .any) else .ptr i a b := by rw [V.frz]; by_cases h : i = id <;> simp only [h, if_true, if_false] <;> cases els[a]? <;> rfl
theorem frz_sl (i off n : Nat) : (V.sl i off n).frz id els = if i = id then (if off + n ≤ els.length then .lst ((els.drop off).take n) else .any) else .sl i off n := by simp [V.frz]
theorem frzL_nil : frzL id els [] = [] := by simp [frzL]
theorem frzL_cons (x : V) (l : List V) : frzL id els (x :: l) = x.frz id els :: frzL id els l := by simp [frzL]
theorem frzL_set (id : Nat) (els : List V) : ∀ (l : List V) (d : Nat) (x : V), frzL id els (l.set d x) = (frzL id els l).set d (x.frz id els)
  | [], _, _ => by simp [frzL]
  | y :: l, 0, x => by simp [frzL]
  | y :: l, d + 1, x => by simp [frzL, frzL_set id els l d x]
def frzU (id : Nat) (els : List V) : List (Nat × V) → List (Nat × V)
  | [] => []
  | (d, x) :: u => (d, x.frz id els) :: frzU id els u
theorem frzU_nil : frzU id els [] = [] := rfl
theorem frzU_cons (d : Nat) (x : V) (u : List (Nat × V)) : frzU id els ((d, x) :: u) = (d, x.frz id els) :: frzU id els u := rfl
theorem frzL_ups (id : Nat) (els l : List V) : ∀ u, frzL id els (ups l u) = ups (frzL id els l) (frzU id els u)
  | [] => rfl
  | (d, x) :: u => by rw [ups, frzL_set, frzL_ups id els l u]; rfl
theorem frzH_nil : frzH id els [] = [] := by simp [frzH]
theorem frzH_none (r : List (Option Ob)) : frzH id els (none :: r) = none :: frzH id els r := by simp [frzH]
theorem frzH_some (o : Ob) (r : List (Option Ob)) : frzH id els (some o :: r) = some (o.frz id els) :: frzH id els r := by simp [frzH]
theorem frzO_row (z : Nat) (l : List V) : (Ob.row z l).frz id els = .row z (frzL id els l) := by simp [Ob.frz]
end
end Go.Proofs.Yteabokphchpifaa
