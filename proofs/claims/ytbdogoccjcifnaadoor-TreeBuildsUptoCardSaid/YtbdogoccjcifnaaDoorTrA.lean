/- Calls that give a new object of the caller's own: slices.Clone. No conditions. -/
import Derived.Test.YtbdogoccjcifnaaDoorOwn
import Derived.Test.YtbdogoccjcifnaaDoorData
import Derived.Test.YtbdogoccjcifnaaDoorAwy
/-! Abstract walk: a call whose body is walked in place, upon the caller's own objects. No conditions. -/
set_option linter.unusedSimpArgs false
set_option linter.unusedVariables false
set_option maxRecDepth 100000
namespace Go.Proofs.YtbdogoccjcifnaaDoor
open Go.RowKit

def zipK : List Nat → List V → (List (Nat × V) → Prop) → Prop
  | [], _, K => K []
  | _ :: _, [], K => K []
  | k :: ks, x :: l, K => fV0 x fun x => zipK ks l fun u => K ((k, x) :: u)
theorem zipK_eq : ∀ (ks : List Nat) (l : List V) (K : List (Nat × V) → Prop), zipK ks l K = K (ks.zip l)
  | [], _, K => rfl
  | _ :: _, [], K => rfl
  | k :: ks, x :: l, K => by simp only [zipK, fV0_eq, zipK_eq ks l, List.zip_cons_cons]
/-- The end of such a body: what the caller's slots were lies at the hidden place. -/
structure InRetN (T : TT) (C : Ctx) (fn : Func) (id n : Nat) (ks : List Nat) (vs : List Value) (K : V → ES → Prop) (σ : ES) : Prop where
  out : Up C (fun s => ∃ l', s.heap[id]? = some (some (.hid vs l')) ∧ (∀ r ∈ fn.results.toList, resGood C.P s r) ∧ K (resA C.P fn.results.toList s) ⟨n, ks.zip l', s.heap.set id none⟩) σ.st
def InRetE (T : TT) (C : Ctx) (fn : Func) (id n : Nat) (ks : List Nat) (vs : List Value) (K : V → ES → Prop) (e : Exit) (σ : ES) : Prop :=
  match e with
  | .normal => InRetN T C fn id n ks vs K σ
  | .ret => InRetN T C fn id n ks vs K σ
  | _ => False
def hidK (id : Nat) (h : List (Option Ob)) (K : List Value → List V → Prop) : Prop := match h[id]? with | some (some (.hid vs l)) => K vs l | _ => False
section
variable {T : TT} {C : Ctx} {σ : ES}
theorem inret_now {fn : Func} {id n : Nat} {ks : List Nat} {vs : List Value} {K : V → ES → Prop} (hE : EOk T C)
    (h : eRess T σ fn.results.toList fun l => eRes1 l fun r => hidK id σ.heap fun vs' l' => vs' = vs ∧ zipK ks l' fun u => fH (σ.heap.set id none) fun h' => K r ⟨n, u, h'⟩) : InRetN T C fn id n ks vs K σ := by
  refine ⟨up_intro ?_⟩
  obtain ⟨h1, h2⟩ := eRess_elim hE.all _ _ h
  have key : ∀ r, (hidK id σ.heap fun vs' l' => vs' = vs ∧ zipK ks l' fun u => fH (σ.heap.set id none) fun h' => K r ⟨n, u, h'⟩) → ∃ l', σ.heap[id]? = some (some (.hid vs l')) ∧ K r ⟨n, ks.zip l', σ.heap.set id none⟩ := by
    intro r hr
    unfold hidK at hr
    split at hr
    · rename_i vs' l' ho
      obtain ⟨rfl, hr⟩ := hr
      rw [zipK_eq, fH_eq] at hr
      exact ⟨l', ho, hr⟩
    · exact hr.elim
  unfold resA
  generalize fn.results.toList = l at h1 h2
  have fin : ∀ x, (∃ l', σ.heap[id]? = some (some (.hid vs l')) ∧ K x ⟨n, ks.zip l', σ.heap.set id none⟩) → ∃ l', σ.st.heap[id]? = some (some (.hid vs l')) ∧ (∀ r ∈ l, resGood C.P σ.st r) ∧ K x ⟨n, ks.zip l', σ.st.heap.set id none⟩ :=
    fun x ⟨l', g1, g2⟩ => ⟨l', g1, h1, g2⟩
  match l, h2, fin with
  | [], h2, fin => exact fin _ (key _ h2)
  | [r], h2, fin => exact fin _ (key _ h2)
  | r :: r' :: l, h2, fin => exact fin _ (key _ h2)
/-- The same, the caller's state as it is. -/
theorem inret_at {fn : Func} {id n : Nat} {ks : List Nat} {vs : List Value} {K : V → ES → Prop} (hE : EOk T C)
    (h : eRess T σ fn.results.toList fun l => eRes1 l fun r => hidK id σ.heap fun vs' l' => vs' = vs ∧ K r ⟨n, ks.zip l', σ.heap.set id none⟩) : InRetN T C fn id n ks vs K σ := by
  refine ⟨up_intro ?_⟩
  obtain ⟨h1, h2⟩ := eRess_elim hE.all _ _ h
  have key : ∀ r, (hidK id σ.heap fun vs' l' => vs' = vs ∧ K r ⟨n, ks.zip l', σ.heap.set id none⟩) → ∃ l', σ.heap[id]? = some (some (.hid vs l')) ∧ K r ⟨n, ks.zip l', σ.heap.set id none⟩ := by
    intro r hr
    unfold hidK at hr
    split at hr
    · rename_i vs' l' ho
      obtain ⟨rfl, hr⟩ := hr
      exact ⟨l', ho, hr⟩
    · exact hr.elim
  unfold resA
  generalize fn.results.toList = l at h1 h2
  have fin : ∀ x, (∃ l', σ.heap[id]? = some (some (.hid vs l')) ∧ K x ⟨n, ks.zip l', σ.heap.set id none⟩) → ∃ l', σ.st.heap[id]? = some (some (.hid vs l')) ∧ (∀ r ∈ l, resGood C.P σ.st r) ∧ K x ⟨n, ks.zip l', σ.st.heap.set id none⟩ :=
    fun x ⟨l', g1, g2⟩ => ⟨l', g1, h1, g2⟩
  match l, h2, fin with
  | [], h2, fin => exact fin _ (key _ h2)
  | [r], h2, fin => exact fin _ (key _ h2)
  | r :: r' :: l, h2, fin => exact fin _ (key _ h2)
theorem inret_up {fn : Func} {id n : Nat} {ks : List Nat} {vs : List Value} {K : V → ES → Prop} (h : UpE C (InRetN T C fn id n ks vs K) σ) : InRetN T C fn id n ks vs K σ := by
  refine ⟨?_⟩
  intro a w hr
  obtain ⟨s, ⟨σ', rfl, h1⟩, hr'⟩ := h.out a w hr
  exact h1.out a w hr'
theorem lookU_zip (ks : List Nat) : ∀ (l : List V) (t : Nat), lookU (ks.zip l) t = .any ∨ ∃ p : Nat, ks[p]? = some t ∧ l[p]? = some (lookU (ks.zip l) t) := by
  induction ks with
  | nil => intro l t; exact .inl rfl
  | cons k ks ih =>
    intro l t
    cases l with
    | nil => exact .inl rfl
    | cons x l =>
      simp only [List.zip_cons_cons, lookU]
      split
      · rename_i e
        rw [nbeq e]
        exact .inr ⟨0, rfl, rfl⟩
      · rcases ih l t with h | ⟨p, h1, h2⟩
        · exact .inl h
        · exact .inr ⟨p + 1, h1, h2⟩
theorem killL_same (id : Nat) : ∀ l : List V, (∀ (i : Nat) (c : V), l[i]? = some c → c.kill id = c) → killL id l = l
  | [], _ => by simp [killL]
  | x :: l, h => by
    simp only [killL]
    rw [h 0 x rfl, killL_same id l fun i c hc => h (i + 1) c (by simpa using hc)]
theorem mvL_same (a b : Nat) : ∀ l : List V, (∀ (i : Nat) (c : V), l[i]? = some c → c.mv a b = c) → mvL a b l = l
  | [], _ => by simp [mvL]
  | x :: l, h => by
    simp only [mvL]
    rw [h 0 x rfl, mvL_same a b l fun i c hc => h (i + 1) c (by simpa using hc)]
theorem frzL_same (a : Nat) (els : List V) : ∀ l : List V, (∀ (i : Nat) (c : V), l[i]? = some c → c.frz a els = c) → frzL a els l = l
  | [], _ => by simp [frzL]
  | x :: l, h => by
    simp only [frzL]
    rw [h 0 x rfl, frzL_same a els l fun i c hc => h (i + 1) c (by simpa using hc)]
/-- What stands for a value names no empty place. -/
theorem Pr.free {w : World} {I : Nat → Prop} {v : Value} {x : V} (id b : Nat) (els : List V) (h : Pr w I v x) : x.kill id = x ∧ x.mv id b = x ∧ x.frz id els = x := by
  have get : ∀ (vs : List Value) (l : List V), vs.length = l.length → ∀ (i : Nat) (c : V), l[i]? = some c → ∃ v, vs[i]? = some v := fun vs l hl i c hc => ⟨_, List.getElem?_eq_getElem (by have := (List.getElem?_eq_some_iff.1 hc).1; omega)⟩
  induction h with
  | agg vs l h1 h2 h3 ih =>
    simp only [V.kill, V.mv, V.frz]
    rw [killL_same id l fun i c hc => by obtain ⟨v, hv⟩ := get vs l h1 i c hc; exact (ih i v c hv hc).1, mvL_same id b l fun i c hc => by obtain ⟨v, hv⟩ := get vs l h1 i c hc; exact (ih i v c hv hc).2.1, frzL_same id els l fun i c hc => by obtain ⟨v, hv⟩ := get vs l h1 i c hc; exact (ih i v c hv hc).2.2]
    exact ⟨rfl, rfl, rfl⟩
  | fn f vs l h1 h2 ih =>
    simp only [V.kill, V.mv, V.frz]
    rw [killL_same id l fun i c hc => by obtain ⟨v, hv⟩ := get vs l h1 i c hc; exact (ih i v c hv hc).1, mvL_same id b l fun i c hc => by obtain ⟨v, hv⟩ := get vs l h1 i c hc; exact (ih i v c hv hc).2.1, frzL_same id els l fun i c hc => by obtain ⟨v, hv⟩ := get vs l h1 i c hc; exact (ih i v c hv hc).2.2]
    exact ⟨rfl, rfl, rfl⟩
  | tup vs l h1 h2 ih =>
    simp only [V.kill, V.mv, V.frz]
    rw [killL_same id l fun i c hc => by obtain ⟨v, hv⟩ := get vs l h1 i c hc; exact (ih i v c hv hc).1, mvL_same id b l fun i c hc => by obtain ⟨v, hv⟩ := get vs l h1 i c hc; exact (ih i v c hv hc).2.1, frzL_same id els l fun i c hc => by obtain ⟨v, hv⟩ := get vs l h1 i c hc; exact (ih i v c hv hc).2.2]
    exact ⟨rfl, rfl, rfl⟩
  | _ => simp [V.kill, V.mv, V.frz]
theorem Rep.free {w : World} {I : Nat → Prop} {bl : Nat → Option BI} {v : Value} {x : V} {id : Nat} (b : Nat) (els : List V) (hn : bl id = none) (h : Rep w I bl v x) : x.kill id = x ∧ x.mv id b = x ∧ x.frz id els = x := by
  have get : ∀ (vs : List Value) (l : List V), vs.length = l.length → ∀ (i : Nat) (c : V), l[i]? = some c → ∃ v, vs[i]? = some v := fun vs l hl i c hc => ⟨_, List.getElem?_eq_getElem (by have := (List.getElem?_eq_some_iff.1 hc).1; omega)⟩
  have ne : ∀ {k : Nat} {i : BI}, bl k = some i → k ≠ id := fun h e => by rw [e, hn] at h; cases h
  induction h with
  | pure v x h => exact h.free id b els
  | nsl k base z h => simp [V.kill, V.mv, V.frz, mvI, ne h]
  | sl k off len cap b' base z m e h1 h2 h3 h4 h5 => simp [V.kill, V.mv, V.frz, mvI, ne h1]
  | esl k off a i h => simp [V.kill, V.mv, V.frz, mvI, ne h]
  | ptr k i j b' base z m e h1 h2 => simp [V.kill, V.mv, V.frz, mvI, ne h1]
  | it k b' base z h1 => simp [V.kill, V.mv, V.frz, mvI, ne h1]
  | agg vs l h1 h2 h3 ih =>
    simp only [V.kill, V.mv, V.frz]
    rw [killL_same id l fun i c hc => by obtain ⟨v, hv⟩ := get vs l h1 i c hc; exact (ih i v c hv hc).1, mvL_same id b l fun i c hc => by obtain ⟨v, hv⟩ := get vs l h1 i c hc; exact (ih i v c hv hc).2.1, frzL_same id els l fun i c hc => by obtain ⟨v, hv⟩ := get vs l h1 i c hc; exact (ih i v c hv hc).2.2]
    exact ⟨rfl, rfl, rfl⟩
  | fn f vs l h1 h2 ih =>
    simp only [V.kill, V.mv, V.frz]
    rw [killL_same id l fun i c hc => by obtain ⟨v, hv⟩ := get vs l h1 i c hc; exact (ih i v c hv hc).1, mvL_same id b l fun i c hc => by obtain ⟨v, hv⟩ := get vs l h1 i c hc; exact (ih i v c hv hc).2.1, frzL_same id els l fun i c hc => by obtain ⟨v, hv⟩ := get vs l h1 i c hc; exact (ih i v c hv hc).2.2]
    exact ⟨rfl, rfl, rfl⟩
  | tup vs l h1 h2 ih =>
    simp only [V.kill, V.mv, V.frz]
    rw [killL_same id l fun i c hc => by obtain ⟨v, hv⟩ := get vs l h1 i c hc; exact (ih i v c hv hc).1, mvL_same id b l fun i c hc => by obtain ⟨v, hv⟩ := get vs l h1 i c hc; exact (ih i v c hv hc).2.1, frzL_same id els l fun i c hc => by obtain ⟨v, hv⟩ := get vs l h1 i c hc; exact (ih i v c hv hc).2.2]
    exact ⟨rfl, rfl, rfl⟩
theorem call_inA {P : Program} {f : FuncId} {fn : Func} {c : Code} {fop : Operand} {args : List Operand} {xs : List V} {K : V → ES → Prop} (hC : C.P = P) (hf : P.funcs[f]? = some fn) (hb : fn.body = some c) (hB : hasBody P f = true) (he : evalC σ fop args = some (f, xs)) (hn : xs.length ≤ fn.ntmps)
    (id : Nat) (ks : List Nat) (hid : σ.heap[id]? = some none) (hks : (ks.all fun k => Nat.blt k σ.n) = true)
    (h : ∀ vs, (∀ k, σ.heap[k]? = some none → killL k (ks.map (lookU σ.u)) = ks.map (lookU σ.u) ∧ (∀ b, mvL k b (ks.map (lookU σ.u)) = ks.map (lookU σ.u)) ∧ ∀ els, frzL k els (ks.map (lookU σ.u)) = ks.map (lookU σ.u)) → AWp C c (Qst (InRetE T C fn id σ.n ks vs K)) (⟨fn.ntmps, argU 0 xs, σ.heap.set id (some (.hid vs (ks.map (lookU σ.u))))⟩ : ES).st) : CallN C fop args f xs K σ := by
  subst hC
  obtain ⟨caps, e1, e2⟩ := evalC_spec he
  refine ⟨up_intro ?_⟩
  unfold CallAt
  rw [e1]
  simp only
  rw [e2]
  refine ⟨hB, ?_⟩
  rintro a w vs ⟨I, bl, hdef, henv, hxs, hH⟩
  have hH : HeapRep C σ.heap w I bl := hH
  refine calls_of_wp hf hb ?_
  have hsz : a.tmps.size = σ.n := by
    have := henv.1
    simpa [ES.st, ES.env] using this.symm
  have hkn : ∀ k ∈ ks, k < σ.n := fun k hk => blt_iff.1 (List.all_eq_true.1 hks k hk)
  let vs0 : List Value := ks.map fun k => (a.tmps[k]?).getD undef
  have hv0 : ∀ (i : Nat) (v : Value) (x : V), vs0[i]? = some v → (ks.map (lookU σ.u))[i]? = some x → Rep w I bl v x := by
    intro i v x hv hx
    simp only [vs0, List.getElem?_map, Option.map_eq_some_iff] at hv hx
    obtain ⟨k, hk, rfl⟩ := hv
    obtain ⟨k', hk', rfl⟩ := hx
    rw [hk] at hk'
    simp only [Option.some.injEq] at hk'
    subst hk'
    have hlt := hkn k (List.mem_of_getElem? hk)
    rw [Array.getElem?_eq_getElem (by omega : k < a.tmps.size)]
    refine henv.2 k _ _ (Array.getElem?_eq_getElem (by omega)) ?_
    show (ES.env σ)[k]? = _
    unfold ES.env
    rw [List.getElem?_map, List.getElem?_range hlt]
    rfl
  have hfree : ∀ k, σ.heap[k]? = some none → killL k (ks.map (lookU σ.u)) = ks.map (lookU σ.u) ∧ (∀ b, mvL k b (ks.map (lookU σ.u)) = ks.map (lookU σ.u)) ∧ ∀ els, frzL k els (ks.map (lookU σ.u)) = ks.map (lookU σ.u) := by
    intro k hk
    have hkn : bl k = none := by
      cases hb : bl k with
      | none => rfl
      | some i =>
        obtain ⟨o, ho⟩ := hH.live _ _ hb
        rw [hk] at ho
        cases ho
    have key : ∀ (b : Nat) (els : List V) (i : Nat) (c : V), (ks.map (lookU σ.u))[i]? = some c → c.kill k = c ∧ c.mv k b = c ∧ c.frz k els = c := by
      intro b els i c hc
      obtain ⟨v, hv⟩ : ∃ v, vs0[i]? = some v := ⟨_, List.getElem?_eq_getElem (by have := (List.getElem?_eq_some_iff.1 hc).1; simp only [vs0, List.length_map] at this ⊢; exact this)⟩
      exact (hv0 i v c hv hc).free b els hkn
    exact ⟨killL_same k _ fun i c hc => (key 0 [] i c hc).1, fun b => mvL_same k b _ fun i c hc => (key b [] i c hc).2.1, fun els => frzL_same k els _ fun i c hc => (key 0 els i c hc).2.2⟩
  have hidl : id < σ.heap.length := (List.getElem?_eq_some_iff.1 hid).1
  have hbn : bl id = none := by
    cases hb : bl id with
    | none => rfl
    | some i =>
      obtain ⟨o, ho⟩ := hH.live _ _ hb
      rw [hid] at ho
      cases ho
  have hH2 : HeapRep C (σ.heap.set id (some (.hid vs0 (ks.map (lookU σ.u))))) w I bl := by
    refine ⟨fun j o ho => ?_, fun j i hi => ?_, hH.apart, hH.own, hH.imm, hH.kept⟩
    · by_cases e : j = id
      · subst e
        rw [List.getElem?_set_self hidl] at ho
        simp only [Option.some.injEq] at ho
        subst ho
        exact ⟨hbn, by simp [vs0], hv0⟩
      · rw [List.getElem?_set_ne (Ne.symm e)] at ho
        exact hH.obj j o ho
    · have e : j ≠ id := by rintro rfl; rw [hbn] at hi; cases hi
      rw [List.getElem?_set_ne (Ne.symm e)]
      exact hH.live j i hi
  have hr : Rel C (⟨fn.ntmps, argU 0 xs, σ.heap.set id (some (.hid vs0 (ks.map (lookU σ.u))))⟩ : ES).st { tmps := vs.toArray ++ Array.replicate (fn.ntmps - vs.toArray.size) undef, defers := [] } w := by
    rw [es_args _ _ _ hn]
    refine RP.rel (I := I) (bl := bl) ⟨rfl, ⟨by simp [hxs.1], fun i v x hv hx => ?_⟩, hH2⟩
    rw [List.getElem?_append] at hx
    rw [Array.getElem?_append] at hv
    have hl := hxs.1
    split at hx
    · rename_i hi
      have hi' : i < vs.toArray.size := by simp; omega
      rw [if_pos hi'] at hv
      exact hxs.2 i v x (by simpa [List.getElem?_eq_getElem (show i < vs.length by omega)] using hv) hx
    · have : x = .any := by
        obtain ⟨h1, h2⟩ := List.getElem?_eq_some_iff.1 hx
        rw [← h2]; simp
      subst this
      exact .pure _ _ (.any _)
  refine wp_mono (h vs0 hfree _ w hr) ?_
  rintro e a' w' ⟨s', ⟨σ', rfl, h1⟩, h2⟩
  have fin : InRetN T C fn id σ.n ks vs0 K σ' → a'.defers = [] ∧ ∃ v, (results fn a'.tmps).run C.P w' = .ok v w' ∧
      ∃ v' r σ'', Ending.returned v = .returned v' ∧ Kst K r σ'' ∧ RelX C σ'' [r] a w' [v'] := by
    intro h1
    obtain ⟨s2, ⟨l', g1, g4, g5⟩, hr2⟩ := h1.out a' w' h2
    obtain ⟨I', bl', hp⟩ := hr2.parts
    obtain ⟨v, hv, hrep⟩ := run_results hp g4
    have hHr : HeapRep C s2.heap w' I' bl' := hp.heap
    obtain ⟨hn1, hn2, hn3⟩ : ObRep w' I' bl' id (.hid vs0 l') := hHr.obj _ _ g1
    have hlt2 : id < s2.heap.length := (List.getElem?_eq_some_iff.1 g1).1
    refine ⟨hp.defers, v, hv, v, _, _, rfl, kst g5, I', bl', hdef, ⟨?_, fun i u x hu hx => ?_⟩, ⟨rfl, fun i u x hu hx => ?_⟩, ⟨fun j o ho => ?_, fun j i hi => ?_, hHr.apart, hHr.own, hHr.imm, hHr.kept⟩⟩
    · simp [ES.st, ES.env, hsz]
    · have hx : (ES.env ⟨σ.n, ks.zip l', s2.heap.set id none⟩)[i]? = some x := hx
      unfold ES.env at hx
      rw [List.getElem?_map, Option.map_eq_some_iff] at hx
      obtain ⟨t, ht, rfl⟩ := hx
      have hti : t = i := by
        have := (List.getElem?_eq_some_iff.1 ht)
        simpa using this.2.symm
      subst hti
      rcases lookU_zip ks l' t with e | ⟨p, hp1, hp2⟩
      · simp only [e]
        exact .pure _ _ (.any _)
      · refine hn3 p u _ ?_ hp2
        simp only [vs0, List.getElem?_map, hp1, Option.map_some, Option.some.injEq]
        rw [hu]
        rfl
    · cases i with
      | succ i => simp at hu
      | zero =>
        simp at hu hx
        subst hu; subst hx
        exact hrep
    · have ho : (s2.heap.set id none)[j]? = some (some o) := ho
      by_cases e : j = id
      · subst e
        rw [List.getElem?_set_self hlt2] at ho
        simp at ho
      · rw [List.getElem?_set_ne (Ne.symm e)] at ho
        exact hHr.obj j o ho
    · show ∃ o, (s2.heap.set id none)[j]? = some (some o)
      have e : j ≠ id := by rintro rfl; rw [hn1] at hi; cases hi
      rw [List.getElem?_set_ne (Ne.symm e)]
      exact hHr.live j i hi
  cases e with
  | normal => exact fin h1
  | ret => exact fin h1
  | exit id => exact h1.elim
  | goto l => exact h1.elim
  | panic ch => exact h1.elim
  | outgrown => exact h1.elim
theorem call_in {P : Program} {f : FuncId} {fn : Func} {c : Code} {fop : Operand} {args : List Operand} {xs : List V} {K : V → ES → Prop} (hE : EOk T C) (hC : C.P = P) (hf : P.funcs[f]? = some fn) (hb : fn.body = some c) (hB : hasBody P f = true) (hc : codeOk c = true) (he : evalC σ fop args = some (f, xs)) (hn : xs.length ≤ fn.ntmps)
    (id : Nat) (ks : List Nat) (hid : σ.heap[id]? = some none) (hks : (ks.all fun k => Nat.blt k σ.n) = true)
    (h : ∀ vs, eCode T C c (InRetE T C fn id σ.n ks vs K) ⟨fn.ntmps, argU 0 xs, σ.heap.set id (some (.hid vs (ks.map (lookU σ.u))))⟩) : CallN C fop args f xs K σ :=
  call_inA (T := T) hC hf hb hB he hn id ks hid hks fun vs _ => eCode_ok hE c hc _ _ (h vs)
theorem codeOk_l {x y : Code} (h : codeOk (.seq x y) = true) : codeOk x = true := by simp only [codeOk, Bool.and_eq_true] at h; exact h.1
theorem codeOk_r {x y : Code} (h : codeOk (.seq x y) = true) : codeOk y = true := by simp only [codeOk, Bool.and_eq_true] at h; exact h.2
/-- The walk is cut: what holds behind the first part is all that the rest is given. -/
theorem awp_cut (hE : EOk T C) {x y : Code} {Q : Exit → ES → Prop} (M : ES → Prop) (hc : codeOk (.seq x y) = true) (h1 : eCode T C x (fun e σ' => match e with | .normal => UpE C M σ' | e => Q e σ') σ)
    (h2 : codeOk y = true → ∀ σ', M σ' → AWp C y (Qst Q) σ'.st) : AWp C (.seq x y) (Qst Q) σ.st := by
  refine awp_seq (awp_mono (eCode_ok hE x (codeOk_l hc) _ _ h1) ?_)
  rintro e s ⟨σ', rfl, h⟩
  cases e with
  | normal => exact awp_up (up_mono h.out fun s ⟨σ'', e, hm⟩ => e ▸ h2 (codeOk_r hc) σ'' hm)
  | exit id => exact ⟨σ', rfl, h⟩
  | goto l => exact ⟨σ', rfl, h⟩
  | ret => exact ⟨σ', rfl, h⟩
  | panic ch => exact ⟨σ', rfl, h⟩
  | outgrown => exact ⟨σ', rfl, h⟩
/-- The same, the first part cut as well. -/
theorem awp_cutA {x y : Code} {Q : Exit → ES → Prop} (M : ES → Prop) (hc : codeOk (.seq x y) = true) (h1 : codeOk x = true → AWp C x (Qst (fun e σ' => match e with | .normal => UpE C M σ' | e => Q e σ')) σ.st)
    (h2 : codeOk y = true → ∀ σ', M σ' → AWp C y (Qst Q) σ'.st) : AWp C (.seq x y) (Qst Q) σ.st := by
  refine awp_seq (awp_mono (h1 (codeOk_l hc)) ?_)
  rintro e s ⟨σ', rfl, h⟩
  cases e with
  | normal => exact awp_up (up_mono h.out fun s ⟨σ'', e, hm⟩ => e ▸ h2 (codeOk_r hc) σ'' hm)
  | exit id => exact ⟨σ', rfl, h⟩
  | goto l => exact ⟨σ', rfl, h⟩
  | ret => exact ⟨σ', rfl, h⟩
  | panic ch => exact ⟨σ', rfl, h⟩
  | outgrown => exact ⟨σ', rfl, h⟩
theorem codeOk_b {id : Nat} {c : Code} (h : codeOk (.block id c) = true) : codeOk c = true := by simpa only [codeOk] using h
theorem codeOk_1 {o : Operand} {x y : Code} (h : codeOk (.cond o x y) = true) : codeOk x = true := by simp only [codeOk, Bool.and_eq_true] at h; exact h.1
theorem codeOk_2 {o : Operand} {x y : Code} (h : codeOk (.cond o x y) = true) : codeOk y = true := by simp only [codeOk, Bool.and_eq_true] at h; exact h.2
theorem awp_run (hE : EOk T C) {c : Code} {Q : Exit → ES → Prop} (hc : codeOk c = true) (h : eCode T C c Q σ) : AWp C c (Qst Q) σ.st := eCode_ok hE c hc _ _ h
/-- A loop, its rounds cut. -/
theorem awp_loopS {β : Type} (S : β → ES) (P : β → Prop) (μ : β → Nat) (b0 : β) {c : Code} {Q : Exit → ES → Prop} (h0 : UpE C (At S b0) σ) (hp : P b0)
    (round : ∀ b, P b → AWp C c (Qst (fun e σ' => match e with
      | .normal => UpE C (Next S P μ b) σ'
      | e => Q e σ')) (S b).st) : AWp C (.loop c) (Qst Q) σ.st := by
  intro a w hr
  obtain ⟨s1, ⟨σ1, e1, h1⟩, hr1⟩ := h0.out a w hr
  subst e1
  subst h1
  refine wp_loop_rel (fun n a w => ∃ b, P b ∧ μ b = n ∧ Rel C (S b).st a w) (μ b0) ⟨b0, hp, rfl, hr1⟩ ?_
  rintro n a w ⟨b, hb, rfl, hr2⟩
  refine wp_mono (round b hb a w hr2) ?_
  rintro e a' w' ⟨s', ⟨σ', rfl, h1⟩, h2⟩
  cases e with
  | normal =>
    obtain ⟨s3, ⟨σ3, rfl, b', h3, h4, rfl⟩, h5⟩ := h1.out a' w' h2
    exact ⟨_, h4, b', h3, rfl, h5⟩
  | exit id => exact ⟨_, qst_exit h1, h2⟩
  | goto l => exact ⟨_, qst_exit h1, h2⟩
  | ret => exact ⟨_, qst_exit h1, h2⟩
  | panic ch => exact ⟨_, qst_exit h1, h2⟩
  | outgrown => exact ⟨_, qst_exit h1, h2⟩
theorem awp_blockS {id : Nat} {c : Code} {Q : Exit → ES → Prop} (h : AWp C c (Qst (fun e σ' => match e with
      | .exit id' => (match Nat.beq id' id with | true => Q .normal σ' | false => Q (.exit id') σ')
      | e => Q e σ')) σ.st) : AWp C (.block id c) (Qst Q) σ.st := by
  refine awp_block (awp_mono h ?_)
  rintro e s ⟨σ', rfl, h⟩
  cases e with
  | normal => exact qst_exit h
  | exit id' =>
    simp only [InB_exit]
    simp only at h
    split at h
    · rename_i hb
      rw [if_pos (nbeq hb)]
      exact qst_exit h
    · rename_i hb
      have : ¬ id' = id := fun e => by subst e; simp at hb
      rw [if_neg this]
      exact qst_exit h
  | goto l => exact qst_exit h
  | ret => exact qst_exit h
  | panic ch => exact qst_exit h
  | outgrown => exact qst_exit h
theorem awp_condS {b : Bool} {c : Operand} {x y : Code} {Q : Exit → ES → Prop} (hv : σ.val c = .bool b) (h : AWp C (match b with | true => x | false => y) (Qst Q) σ.st) : AWp C (.cond c x y) (Qst Q) σ.st := by
  refine awp_cond b ?_ (fun e => ?_) (fun e => ?_)
  · intro a w hr
    obtain ⟨I, bl, hp⟩ := hr.parts
    have := hp.val c
    rw [es_val, hv] at this
    exact this.inv_bool
  · subst e; exact h
  · subst e; exact h
theorem awp_loopE (hE : EOk T C) {c : Code} {Q : Exit → ES → Prop} (h : LoopE T C c Q σ) : AWp C (.loop c) (Qst Q) σ.st := h.out
/-- A function of read-only data, walked with cuts. -/
theorem fn1A {P : Program} {f : FuncId} {fn : Func} {c : Code} {args : List V} {R : V → Prop} (hf : P.funcs[f]? = some fn) (hb : fn.body = some c) (hall : T.All P) (hany : P.follows .mixedOrders = true) (hn : args.length ≤ fn.ntmps)
    (h : ∀ C : Ctx, C.P = P → EOk T C → AWp C c (Qst (RetE T C fn R)) (⟨fn.ntmps, argU 0 args, []⟩ : ES).st) : Fn1 P f args R := by
  refine fn1_of_awp hf hb fun C hC => ?_
  have hE : EOk T C := ⟨hC ▸ hall, hC ▸ hany⟩
  have h1 := h C hC hE
  rw [es_args _ _ _ hn] at h1
  refine awp_mono h1 ?_
  rintro e s ⟨σ, rfl, h⟩
  cases e with
  | normal => exact h.out
  | ret => exact h.out
  | exit id => exact h.elim
  | goto l => exact h.elim
  | panic ch => exact h.elim
  | outgrown => exact h.elim
end
end Go.Proofs.YtbdogoccjcifnaaDoor

/-! Abstract walk: what a heap of own objects looks like to one who only reads. No conditions. -/
namespace Go.Proofs.YtbdogoccjcifnaaDoor
open Go.RowKit

/-- Upon this heap x may be read as y. -/
inductive See (h : List (Option Ob)) : V → V → Prop
  | any (x : V) : See h x .any
  | same (x : V) : x.nr → See h x x
  | less (x y : V) : (∀ {w : World} {I : Nat → Prop} {bl : Nat → Option BI} (v : Value), Rep w I bl v x → Pr w I v y) → See h x y
  | sl (id z m : Nat) (els l : List V) : h[id]? = some (some (.row z els)) → m ≤ els.length → l.length = m → (∀ (i : Nat) (x y : V), els[i]? = some x → l[i]? = some y → y.cells.length = x.cells.length) →
      (∀ (i j : Nat) (x y c d : V), els[i]? = some x → l[i]? = some y → x.cells[j]? = some c → y.cells[j]? = some d → See h c d) → See h (.sl id 0 m) (.lst l)
  | ptr (id z : Nat) (x : V) (els l : List V) : h[id]? = some (some (.row z (x :: els))) → l.length ≤ z → (∀ (j : Nat) (c d : V), x.cells[j]? = some c → l[j]? = some d → See h c d) → See h (.ptr id 0 0) (.rp l)
  | fn (f : FuncId) (xs ys : List V) : ys.length = xs.length → (∀ (i : Nat) (c d : V), xs[i]? = some c → ys[i]? = some d → See h c d) → See h (.fn f xs) (.fn f ys)
  | agg (xs ys : List V) : ys.length = xs.length → (∀ (i : Nat) (c d : V), xs[i]? = some c → ys[i]? = some d → See h c d) → See h (.agg xs) (.agg ys)

/-- Of a row of cells that are only read some may be unknown. -/
theorem rp_less {w : World} {I : Nat → Prop} {bl : Nat → Option BI} {v : Value} {a b c d : V} (h : Rep w I bl v (.rp [a, b, c, d])) : Pr w I v (.rp [a, .any, .any, .any]) := by
  obtain ⟨k, off, u, hI, rfl, h1, h2, h3⟩ := h.inv_rp
  refine .rp k off _ u hI (fun j hj => h1 j (by simpa using hj)) h2 (fun j x hx => ?_)
  match j with
  | 0 => simp at hx; subst hx; exact h3 0 _ rfl
  | 1 => simp at hx; subst hx; exact .any _
  | 2 => simp at hx; subst hx; exact .any _
  | 3 => simp at hx; subst hx; exact .any _
  | j + 4 => simp at hx
def ownB (I : Nat → Prop) (bl : Nat → Option BI) (b : Nat) : Prop := I b ∨ ∃ id i, bl id = some i ∧ i.blk = some b
theorem see_pr {C : Ctx} {h : List (Option Ob)} {w : World} {I : Nat → Prop} {bl : Nat → Option BI} (hH : HeapRep C h w I bl) {x y : V} (hs : See h x y) : ∀ v, Rep w I bl v x → Pr w (ownB I bl) v y := by
  induction hs with
  | any x => exact fun v _ => .any v
  | less x y hl => exact fun v hv => (hl v hv).later (fun _ _ => rfl) (fun b hb => .inl hb)
  | same x hn => exact fun v hv => (hv.pr hn).later (fun _ _ => rfl) (fun b hb => .inl hb)
  | sl id z m els l ho hm hl hc hcc ih =>
    intro v hv
    rcases hv.inv_sl with ⟨base, z', h1, _, h5, rfl⟩ | ⟨a', i', h1, h5, rfl⟩ | ⟨cap, b, base, z', n, e', h1, h2, h3, h4, h5, rfl⟩
    · rw [h5] at hl
      obtain rfl : l = [] := List.eq_nil_of_length_eq_zero hl
      exact .lnil none 0
    · rw [h5] at hl
      obtain rfl : l = [] := List.eq_nil_of_length_eq_zero hl
      exact .lnil _ 0
    · obtain ⟨bi, g1, g2, g3, g4⟩ := hH.obj _ _ ho
      rw [h1] at g1
      simp only [Option.some.injEq] at g1
      subst g1
      simp only at g2 g4
      subst g2
      obtain ⟨cur, e2, hg, hsz, hcc2⟩ := g4
      rw [← hl]
      have hx : ∀ (i : Nat) (x' : V), l[i]? = some x' → ∃ x, els[i]? = some x := fun i x' hi => ⟨_, List.getElem?_eq_getElem (by have := (List.getElem?_eq_some_iff.1 hi).1; omega)⟩
      have hmz : m * z' ≤ els.length * z' := Nat.mul_le_mul_right _ hm
      refine .lst b (base + 0 * z') cap z' l (fun i j => if i * z' + j < els.length * z' then (cur[base + i * z' + j]?).getD (.int .i64 0) else .int .i64 0) (.inr ⟨_, _, h1, rfl⟩) (by omega) h5 (fun i x' hi => ?_) (fun i j hi hj => ?_) (fun i j => ?_) (fun i x' j c' hi hj => ?_)
      · obtain ⟨x, hx⟩ := hx i x' hi
        rw [hc i x x' hx hi]
        exact g3 i x hx
      · have hil : i < els.length := by omega
        have hm : (i + 1) * z' ≤ els.length * z' := Nat.mul_le_mul_right _ hil
        rw [Nat.add_mul, Nat.one_mul] at hm
        rw [hg.cell, if_pos (by omega), Nat.zero_mul, Nat.add_zero]
        have hlt : base + i * z' + j < cur.size := by omega
        rw [Array.getElem?_eq_getElem hlt]
        rfl
      · split
        · rename_i hij
          have hz : 0 < z' := by
            rcases Nat.eq_zero_or_pos z' with h0 | h0
            · subst h0; omega
            · exact h0
          have hq : (i * z' + j) / z' < els.length := (Nat.div_lt_iff_lt_mul hz).2 hij
          obtain ⟨x, hx⟩ : ∃ x, els[(i * z' + j) / z']? = some x := ⟨_, List.getElem?_eq_getElem hq⟩
          obtain ⟨c, hcx⟩ : ∃ c, x.cells[(i * z' + j) % z']? = some c := ⟨_, List.getElem?_eq_getElem (by rw [g3 _ x hx]; exact Nat.mod_lt _ hz)⟩
          obtain ⟨u, hu, hu1, _⟩ := hcc2 _ x _ c hx hcx
          have : base + (i * z' + j) / z' * z' + (i * z' + j) % z' = base + i * z' + j := by
            have := Nat.div_add_mod' (i * z' + j) z'
            omega
          rw [this] at hu
          rw [hu]
          exact hu1
        · rfl
      · obtain ⟨x, hxi⟩ := hx i x' hi
        have hl := hc i x x' hxi hi
        have hj' : j < x.cells.length := by rw [← hl]; exact (List.getElem?_eq_some_iff.1 hj).1
        obtain ⟨c, hcx⟩ : ∃ c, x.cells[j]? = some c := ⟨_, List.getElem?_eq_getElem hj'⟩
        obtain ⟨u, hu, _, hur⟩ := hcc2 i x j c hxi hcx
        have hil : i < els.length := (List.getElem?_eq_some_iff.1 hxi).1
        have hm : (i + 1) * z' ≤ els.length * z' := Nat.mul_le_mul_right _ hil
        rw [Nat.add_mul, Nat.one_mul] at hm
        have hjz : j < z' := by rw [← g3 i x hxi]; exact hj'
        rw [if_pos (by omega), hu]
        exact ih i j x x' c c' hxi hi hcx hj u hur
  | ptr id z x els l ho hl hcc ih =>
    intro v hv
    obtain ⟨b, base, z', n, e, h1, h2, rfl⟩ := hv.inv_ptr
    obtain ⟨bi, g1, g2, g3, g4⟩ := hH.obj _ _ ho
    rw [h1] at g1
    simp only [Option.some.injEq] at g1
    subst g1
    simp only at g2 g4
    subst g2
    obtain ⟨cur, e2, hg, hsz, hcc2⟩ := g4
    have hx := g3 0 x rfl
    have hlen : (x :: els).length = els.length + 1 := rfl
    have hm : (els.length + 1) * z' = els.length * z' + z' := by rw [Nat.add_mul, Nat.one_mul]
    have key : ∀ j, j < l.length → ∃ c u, x.cells[j]? = some c ∧ cur[base + j]? = some u ∧ u.oneCell' = true ∧ Rep w I bl u c := by
      intro j hj
      obtain ⟨c, hc⟩ : ∃ c, x.cells[j]? = some c := ⟨_, List.getElem?_eq_getElem (by omega)⟩
      obtain ⟨u, k1, k2, k3⟩ := hcc2 0 x j c rfl hc
      exact ⟨c, u, hc, by rw [← k1]; congr 1; omega, k2, k3⟩
    refine .rp b (base + 0 * z' + 0) l (fun j => if j < l.length then (cur[base + j]?).getD (.int .i64 0) else .int .i64 0) (.inr ⟨_, _, h1, rfl⟩) (fun j hj => ?_) (fun j => ?_) (fun j d hd => ?_)
    · obtain ⟨c, u, _, k2, _⟩ := key j hj
      rw [hg.cell, if_pos hj, show base + 0 * z' + 0 + j = base + j by omega, k2]
      rfl
    · split
      · rename_i hj
        obtain ⟨c, u, _, k2, k3, _⟩ := key j hj
        rw [k2]
        exact k3
      · rfl
    · have hj := (List.getElem?_eq_some_iff.1 hd).1
      obtain ⟨c, u, k1, k2, k3, k4⟩ := key j hj
      rw [if_pos hj, k2]
      exact ih j c d k1 hd u k4
  | fn f xs ys hl hcc ih =>
    intro v hv
    obtain ⟨vs, rfl, h1, h2⟩ := hv.inv_fn
    refine .fn f vs ys (by omega) fun i u d hu hd => ?_
    obtain ⟨c, hc⟩ : ∃ c, xs[i]? = some c := ⟨_, List.getElem?_eq_getElem (by have := (List.getElem?_eq_some_iff.1 hd).1; omega)⟩
    exact ih i c d hc hd u (h2 i u c hu hc)
  | agg xs ys hl hcc ih =>
    intro v hv
    obtain ⟨vs, rfl, h1, h3, h2⟩ := hv.inv_agg
    refine .agg vs ys (by omega) h3 fun i u d hu hd => ?_
    obtain ⟨c, hc⟩ : ∃ c, xs[i]? = some c := ⟨_, List.getElem?_eq_getElem (by have := (List.getElem?_eq_some_iff.1 hd).1; omega)⟩
    exact ih i c d hc hd u (h2 i u c hu hc)
section
variable {C : Ctx}
/-- All is frozen: what is kept is read as it looks. -/
theorem up_seen {K : ES → Prop} (kys : List (Nat × V)) {n : Nat} {u : List (Nat × V)} {h : List (Option Ob)} (hs : ∀ k y, (k, y) ∈ kys → See h (lookU u k) y) (hk : UpE C K ⟨n, kys, []⟩) : UpE C K ⟨n, u, h⟩ := by
  refine ⟨up_of_rel (fun a w hr => ?_) hk.out⟩
  obtain ⟨I, bl, hp⟩ := hr.parts
  have hH : HeapRep C h w I bl := hp.heap
  refine RP.rel (I := ownB I bl) (bl := fun _ => none) ⟨hp.defers, ⟨by have := hp.env.1; simpa [ES.st, ES.env] using this, fun i v x hv hx => ?_⟩, ⟨?_, ?_, ?_, ?_, ?_, hp.heap.kept⟩⟩
  · have hx : (ES.env ⟨n, kys, []⟩)[i]? = some x := hx
    have hold : ∀ y, (ES.env ⟨n, u, h⟩)[i]? = some y → Rep w I bl v y := fun y hy => hp.env.2 i v y hv hy
    unfold ES.env at hx hold
    rw [List.getElem?_map, Option.map_eq_some_iff] at hx
    obtain ⟨t, ht, rfl⟩ := hx
    have hti : t = i := by
      have := (List.getElem?_eq_some_iff.1 ht)
      simpa using this.2.symm
    subst hti
    have hold := hold (lookU u t) (by rw [List.getElem?_map, ht]; rfl)
    have key : ∀ l : List (Nat × V), (∀ p ∈ l, p ∈ kys) → lookU l t = .any ∨ (t, lookU l t) ∈ kys := by
      intro l
      induction l with
      | nil => exact fun _ => .inl rfl
      | cons p l ih =>
        obtain ⟨k, y⟩ := p
        intro hl
        simp only [lookU]
        split
        · rename_i e
          rw [nbeq e]
          exact .inr (hl _ List.mem_cons_self)
        · exact ih fun p hp => hl p (List.mem_cons_of_mem _ hp)
    rcases key kys (fun _ h => h) with e | e
    · simp only [e]
      exact .pure _ _ (.any _)
    · exact .pure _ _ (see_pr hH (hs t _ e) v hold)
  · intro id o ho; simp [ES.st] at ho
  · intro id i hi; cases hi
  · intro id id' i i' b hi; cases hi
  · intro id i b hi; cases hi
  · intro k hk
    rcases hk with hk | ⟨id, i, h1, h2⟩
    · exact hp.heap.imm k hk
    · obtain ⟨h3, _, h5⟩ := hp.heap.own id i k h1 h2
      exact ⟨h3, .inr h5⟩
/-- A call that only reads, upon any heap, and answers with a plain value. -/
theorem call_see {P : Program} {fop : Operand} {args : List Operand} {f : FuncId} {xs ys : List V} {r : V} {K : V → ES → Prop} {σ : ES} (h : Fn1 P f ys (fun r' => r' = r)) (hC : C.P = P) (hb : hasBody P f = true) (he : evalC σ fop args = some (f, xs)) (hl : ys.length = xs.length)
    (hs : ∀ (i : Nat) (x y : V), xs[i]? = some x → ys[i]? = some y → See σ.heap x y) (hr : scV r = true) (hk : K r σ) : CallN C fop args f xs K σ := by
  subst hC
  obtain ⟨caps, e1, e2⟩ := evalC_spec he
  refine ⟨up_intro ?_⟩
  unfold CallAt
  rw [e1]
  simp only
  rw [e2]
  refine ⟨hb, ?_⟩
  rintro a w vs ⟨I, bl, hdef, henv, hxs, hH⟩
  have hH : HeapRep C σ.heap w I bl := hH
  refine (h w (ownB I bl) vs (by rw [hl]; exact hxs.1) (fun i v y hv hy => ?_) (fun b hb => ?_)).mono ?_
  · obtain ⟨x, hx⟩ : ∃ x, xs[i]? = some x := ⟨_, List.getElem?_eq_getElem (by have := (List.getElem?_eq_some_iff.1 hy).1; omega)⟩
    exact see_pr hH (hs i x y hx hy) v (hxs.2 i v x hv hx)
  · rcases hb with hb | ⟨id, i, h1, h2⟩
    · exact (hH.imm b hb).1
    · exact (hH.own id i b h1 h2).1
  rintro e w' ⟨v, r', I', rfl, rfl, hrep, hI', hkept⟩
  have hlater : Later I w w' := ⟨fun b hb => hkept.block b (hH.imm b hb).1 (fun h => h), hkept.shape⟩
  have hblk : ∀ b, b < w.heap.size → w'.heap[b]? = w.heap[b]? := fun b hb => hkept.block b hb (fun h => h)
  refine ⟨v, _, σ.st, rfl, kst hk, I, bl, hdef, henv.later hlater (fun _ h => h) (fun _ _ h => h), ⟨rfl, fun i u x hu hx => ?_⟩, ?_⟩
  · cases i with
    | succ i => simp at hu
    | zero =>
      simp at hu hx
      subst hu; subst hx
      exact .pure _ _ (hrep.sc hr)
  · refine ⟨fun id o ho => ?_, hH.live, hH.apart, fun id i b h1 h2 => ?_, fun b hb => ?_, hH.kept.trans ⟨hkept.os, hkept.tape, hkept.output, hkept.size, fun k h1 h2 => hkept.block k h1 (fun h => h), hkept.shape⟩⟩
    · exact (hH.obj id o ho).later hlater (fun _ h => h) (fun _ _ h => h) (fun i b h1 h2 => hblk b (hH.own id i b h1 h2).1) (fun h => h)
    · obtain ⟨h3, h4, h5⟩ := hH.own id i b h1 h2
      exact ⟨Nat.lt_of_lt_of_le h3 hkept.size, h4, h5⟩
    · obtain ⟨h3, h4⟩ := hH.imm b hb
      exact ⟨Nat.lt_of_lt_of_le h3 hkept.size, h4⟩
end
end Go.Proofs.YtbdogoccjcifnaaDoor

/-! A nil slice in a field of an own variable is an empty own slice. Nil slices among an object's values. No conditions. -/
namespace Go.Proofs.YtbdogoccjcifnaaDoor
open Go.RowKit

theorem fresh_not (h : List (Option Ob)) : ∀ o, h[freshIn h]? ≠ some (some o) := by
  induction h with
  | nil => intro o ho; simp [freshIn] at ho
  | cons x r ih =>
    intro o ho
    cases x with
    | none => simp [freshIn] at ho
    | some y => exact ih o (by simpa [freshIn] using ho)
/-- A field of an own variable holds nil: it holds an own slice of no elements. -/
theorem up_ownF {C : Ctx} {K : ES → Prop} (p c z' : Nat) {z n : Nat} {l : List V} {u : List (Nat × V)} {h : List (Option Ob)} (ho : h[p]? = some (some (.row z [.agg l]))) (hl : l[c]? = some .nils)
    (hk : UpE C K ⟨n, u, (putOb h (.row z' [])).set p (some (.row z [.agg (l.set c (.sl (freshIn h) 0 0))]))⟩) : UpE C K ⟨n, u, h⟩ := by
  refine ⟨up_of_rel (fun a w hr => ?_) hk.out⟩
  obtain ⟨I, bl, hp0⟩ := hr.parts
  have hp := hp0.adopt z'
  have hne : p ≠ freshIn h := fun e => fresh_not h _ (e ▸ ho)
  have ho' : (putOb h (.row z' []))[p]? = some (some (.row z [.agg l])) := (putOb_other h _ p hne).trans ho
  have hpl : p < (putOb h (.row z' [])).length := (List.getElem?_eq_some_iff.1 ho').1
  refine RP.rel (I := I) (bl := upd bl (freshIn h) ⟨none, 0, z'⟩) ⟨hp.defers, hp.env, ⟨fun id o hoo => ?_, fun id i hi => ?_, hp.heap.apart, hp.heap.own, hp.heap.imm, hp.heap.kept⟩⟩
  · have hoo : ((putOb h (.row z' [])).set p (some (.row z [.agg (l.set c (.sl (freshIn h) 0 0))])))[id]? = some (some o) := hoo
    by_cases e : id = p
    · subst e
      rw [List.getElem?_set_self hpl] at hoo
      simp only [Option.some.injEq] at hoo
      subst hoo
      obtain ⟨bi, h1, h2, h3, h4⟩ := hp.heap.obj id _ ho'
      refine ⟨bi, h1, h2, fun i x hx => ?_, ?_⟩
      · cases i with
        | zero =>
          simp only [List.getElem?_cons_zero, Option.some.injEq] at hx
          subst hx
          have := h3 0 (.agg l) rfl
          simp only [V.cells] at this ⊢
          simpa using this
        | succ i => simp at hx
      · cases hbl : bi.blk with
        | none =>
          simp only [hbl] at h4
          cases h4
        | some b =>
          simp only [hbl] at h4 ⊢
          obtain ⟨cur, e, hg, hsz, hc⟩ := h4
          refine ⟨cur, e, hg, by simpa using hsz, fun i x j v hx hxc => ?_⟩
          cases i with
          | succ i => simp at hx
          | zero =>
            simp only [List.getElem?_cons_zero, Option.some.injEq] at hx
            subst hx
            simp only [V.cells] at hxc
            by_cases hj : j = c
            · subst hj
              have hlt : j < l.length := (List.getElem?_eq_some_iff.1 hl).1
              rw [List.getElem?_set_self hlt] at hxc
              simp only [Option.some.injEq] at hxc
              subst hxc
              obtain ⟨y, hy, h1', hr'⟩ := hc 0 (.agg l) j .nils rfl hl
              have := hr'.inv_nils
              subst this
              exact ⟨_, hy, h1', .nsl _ _ _ (upd_same _ _ _)⟩
            · rw [List.getElem?_set_ne (Ne.symm hj)] at hxc
              exact hc 0 (.agg l) j v rfl hxc
    · rw [List.getElem?_set_ne (Ne.symm e)] at hoo
      exact hp.heap.obj id o hoo
  · show ∃ o, ((putOb h (.row z' [])).set p (some (.row z [.agg (l.set c (.sl (freshIn h) 0 0))])))[id]? = some (some o)
    by_cases e : id = p
    · subst e; exact ⟨_, List.getElem?_set_self hpl⟩
    · rw [List.getElem?_set_ne (Ne.symm e)]
      exact hp.heap.live id i hi
end Go.Proofs.YtbdogoccjcifnaaDoor

/-! Calls that give a new object of the caller's own: slices.Clone. No conditions. -/
namespace Go.Proofs.YtbdogoccjcifnaaDoor
open Go.RowKit

/-- A new empty object, of which nothing is known but that it is there. -/
theorem up_new {C : Ctx} {K : ES → Prop} (z : Nat) {n : Nat} {u : List (Nat × V)} {h : List (Option Ob)} (hk : UpE C K ⟨n, u, putOb h (.row z [])⟩) : UpE C K ⟨n, u, h⟩ := by
  refine ⟨up_of_rel (fun a w hr => ?_) hk.out⟩
  obtain ⟨I, bl, hp⟩ := hr.parts
  exact (hp.adopt z).rel
/-- A call that fills a new object of the caller's. -/
theorem call_fresh {C : Ctx} {P : Program} {f : FuncId} {z m : Nat} {els' xs0 xs1 : List V} {fop : Operand} {args : List Operand} {K : V → ES → Prop} {σ : ES} (h : HFn P f xs0 [.row z []] [] (fun r o => r = .sl 0 0 m ∧ o = [.row z els'])) (hC : C.P = P) (hb : hasBody P f = true)
    (p : Nat) (he : evalC σ fop args = some (f, xs1)) (hx : rnL 1 (fun _ => p) xs0 xs1) (hrow : σ.heap[p]? = some (some (.row z []))) (hn' : nrL els')
    (hK : killUE p σ.u fun u => fH ((killH p σ.heap).set p (some (.row z els'))) fun h => K (.sl p 0 m) ⟨σ.n, u, h⟩) : CallN C fop args f xs1 K σ := by
  rw [killUE_eq, fH_eq] at hK
  refine call_h h hC hb he (fun _ => p) ?_ ?_ ?_ [p] ?_ ?_ ?_
  · intro i j hi hj _
    simp at hi hj
    omega
  · exact hx
  · intro j o ho
    match j, ho with
    | 0, ho =>
      simp at ho
      subst ho
      exact ⟨_, hrow, [], rfl, rnL_self trivial⟩
    | n + 1, ho => simp at ho
  · intro j _ hn
    exact absurd (by simp) hn
  · intro id hid
    simp at hid
    exact ⟨0, by simp, hid.symm⟩
  · rintro r0 objs' ⟨rfl, rfl⟩ _
    refine ⟨.sl p 0 m, [.row z els'], by simp [rnV], rfl, ?_, hK⟩
    intro j o o' ho ho'
    match j, ho, ho' with
    | 0, ho, ho' =>
      simp at ho ho'
      subst ho; subst ho'
      exact ⟨els', rfl, rnL_self hn'⟩
    | n + 1, ho, _ => simp at ho
/-- Such a call, whatever the heap holds. -/
theorem fresh_c {C : Ctx} {f : FuncId} {z m : Nat} {els' xs : List V} (h : HFn C.P f xs [.row z []] [] (fun r o => r = .sl 0 0 m ∧ o = [.row z els'])) (hx : nrL xs) (hn' : nrL els') : FreshC C f xs m z els' := by
  rintro s a w vs ⟨I, bl, hdef, henv, hxs, hH⟩
  have hH : HeapRep C s.heap w I bl := hH
  generalize hp : freshIn s.heap = p
  have hpn : ∀ o, s.heap[p]? ≠ some (some o) := fun o ho => by
    have : ∀ (h : List (Option Ob)) (o : Ob), h[freshIn h]? ≠ some (some o) := by
      intro h
      induction h with
      | nil => intro o ho; simp [freshIn] at ho
      | cons x r ih =>
        intro o ho
        cases x with
        | none => simp [freshIn] at ho
        | some y => exact ih o (by simpa [freshIn] using ho)
    exact this s.heap o (by rw [hp]; exact ho)
  have hblp : bl p = none := by
    cases hb : bl p with
    | none => rfl
    | some i =>
      obtain ⟨o, ho⟩ := hH.live p i hb
      exact absurd ho (hpn o)
  let blc : Nat → Option BI := fun j => if j = 0 then some ⟨none, 0, z⟩ else none
  have hblk : ∀ b, ¬ blocksOf blc b := by
    rintro b ⟨j, i, h1, h2⟩
    by_cases hj : j = 0
    · simp only [blc, if_pos hj, Option.some.injEq] at h1
      subst h1
      cases h2
    · simp only [blc, if_neg hj] at h1
      cases h1
  have hHc : HeapRep ⟨C.P, w, blocksOf blc, I⟩ ([Ob.row z []].map some) w I blc := by
    refine ⟨fun j o ho => ?_, fun j i hj => ?_, fun j j' i i' b h1 h2 h3 h4 => ?_, fun j i b h1 h2 => absurd ⟨j, i, h1, h2⟩ (hblk b), fun b hb => ⟨(hH.imm b hb).1, .inl hb⟩, Kept.refl _ _⟩
    · cases j with
      | zero =>
        simp at ho
        subst ho
        exact ⟨_, rfl, rfl, fun i x hx => by simp at hx, rfl⟩
      | succ j => simp at ho
    · by_cases e : j = 0
      · subst e; exact ⟨_, rfl⟩
      · simp only [blc, if_neg e] at hj; cases hj
    · exact absurd ⟨j, i, h1, h3⟩ (hblk b)
  refine (h w I blc vs hxs.1 (fun i v x hv hx' => ?_) hHc).mono ?_
  · have hself := rnL_self (k := 0) (ρ := id) hx
    obtain ⟨hxl, hxr⟩ := rnL_get hself
    exact rep_down (k := 0) (ρ := id) (fun j hj => absurd hj (Nat.not_lt_zero j)) x v x (hxr i x x hx' hx') (hxs.2 i v x hv hx')
  rintro e w' ⟨v, r0, objs', I', bl', rfl, ⟨rfl, rfl⟩, _, hrep, hH', _⟩
  have hown' : ∀ j i b, bl' j = some i → i.blk = some b → b < w'.heap.size ∧ ¬ I' b ∧ (blocksOf blc b ∨ w.heap.size ≤ b) := fun j i b h1 h2 => hH'.own j i b h1 h2
  have hown0 : ∀ j i b, bl' j = some i → i.blk = some b → w.heap.size ≤ b := fun j i b h1 h2 => (hown' j i b h1 h2).2.2.elim (fun h => absurd h (hblk b)) id
  have hkeep : ∀ b, b < w.heap.size → w'.heap[b]? = w.heap[b]? := fun b h1 => hH'.kept.block b h1 (hblk b)
  have hsize : w.heap.size ≤ w'.heap.size := hH'.kept.size
  have hlater : Later I w w' := ⟨fun b hb => hkeep b (hH.imm b hb).1, hH'.kept.shape⟩
  let I2 : Nat → Prop := fun b => I b ∨ I' b
  let bl2 : Nat → Option BI := fun id => if id = p then bl' 0 else bl id
  have hin : ∀ j, j < 1 → bl2 ((fun _ => p) j) = bl' j := fun j hj => by
    have : j = 0 := by omega
    subst this
    simp only [bl2, if_pos rfl]
  have hout : ∀ id, id ≠ p → bl2 id = bl id := fun id hid => by simp only [bl2, if_neg hid]
  have hbl2 : ∀ id i, bl id = some i → bl2 id = some i := fun id i hi => by
    by_cases e : id = p
    · subst e; rw [hblp] at hi; cases hi
    · rw [hout id e]; exact hi
  have hI2 : ∀ b, I b → I2 b := fun b hb => .inl hb
  have hI2' : ∀ b, I' b → I2 b := fun b hb => .inr hb
  have hI'cases : ∀ b, I' b → b < w'.heap.size ∧ (I b ∨ w.heap.size ≤ b) := fun b hb => by
    obtain ⟨g1, g2⟩ := hH'.imm b hb
    exact ⟨g1, g2.elim .inl fun h => h.elim (fun h => absurd h (hblk b)) .inr⟩
  have hoth : ∀ id, id ≠ p → (putOb s.heap (.row z els'))[id]? = s.heap[id]? := fun id hid => putOb_other _ _ _ (by rw [hp]; exact hid)
  have hatp : (putOb s.heap (.row z els'))[p]? = some (some (.row z els')) := by rw [← hp]; exact putOb_fresh _ _
  refine ⟨v, .sl p 0 m, ⟨s.env, putOb s.heap (.row z els')⟩, rfl, ⟨rfl, rfl⟩, I2, bl2, hdef, henv.later hlater hI2 hbl2, ⟨rfl, fun i v' x hv hx' => ?_⟩, ?_⟩
  · cases i with
    | succ i => simp at hv
    | zero =>
      simp at hv hx'
      subst hv; subst hx'
      exact rep_up hI2' hin hrep _ (by simp [rnV])
  · refine ⟨fun id o ho => ?_, fun id i hi => ?_, fun id id' i i' b h1 h2 h3 h4 => ?_, fun id i b h1 h2 => ?_, fun b hb => ?_, ?_⟩
    · have ho : (putOb s.heap (.row z els'))[id]? = some (some o) := ho
      by_cases e : id = p
      · subst e
        rw [hatp] at ho
        simp only [Option.some.injEq] at ho
        subst ho
        exact ob_up (ρ := fun _ => id) hI2' hin (Nat.lt_succ_self 0) (o := .row z els') (o' := .row z els') ⟨els', rfl, rnL_self hn'⟩ (hH'.obj 0 _ rfl)
      · rw [hoth id e] at ho
        exact (hH.obj id o ho).later hlater hI2 hbl2 (fun i b h1 h2 => hkeep b (hH.own id i b h1 h2).1) (fun h => by rw [hout id e]; exact h)
    · show ∃ o, (putOb s.heap (.row z els'))[id]? = some (some o)
      by_cases e : id = p
      · subst e; exact ⟨_, hatp⟩
      · rw [hoth id e]
        rw [hout id e] at hi
        exact hH.live id i hi
    · by_cases e : id = p
      · by_cases e' : id' = p
        · rw [e, e']
        · rw [hout id' e'] at h2
          rw [e] at h1
          have h1 : bl' 0 = some i := by rw [← hin 0 (by omega)]; exact h1
          have := hown0 0 i b h1 h3
          have := (hH.own id' i' b h2 h4).1
          omega
      · rw [hout id e] at h1
        by_cases e' : id' = p
        · rw [e'] at h2
          have h2 : bl' 0 = some i' := by rw [← hin 0 (by omega)]; exact h2
          have := hown0 0 i' b h2 h4
          have := (hH.own id i b h1 h3).1
          omega
        · rw [hout id' e'] at h2
          exact hH.apart id id' i i' b h1 h2 h3 h4
    · by_cases e : id = p
      · rw [e] at h1
        have h1 : bl' 0 = some i := by rw [← hin 0 (by omega)]; exact h1
        have g0 := hown0 0 i b h1 h2
        obtain ⟨g1, g2, _⟩ := hown' 0 i b h1 h2
        refine ⟨g1, fun hb => ?_, .inr (Nat.le_trans hH.kept.size g0)⟩
        rcases hb with hb | hb
        · have := (hH.imm b hb).1; omega
        · exact g2 hb
      · rw [hout id e] at h1
        obtain ⟨g1, g2, g3⟩ := hH.own id i b h1 h2
        refine ⟨Nat.lt_of_lt_of_le g1 hsize, fun hb => ?_, g3⟩
        rcases hb with hb | hb
        · exact g2 hb
        · rcases (hI'cases b hb).2 with h5 | h5
          · exact g2 h5
          · omega
    · rcases hb with hb | hb
      · obtain ⟨g1, g2⟩ := hH.imm b hb
        exact ⟨Nat.lt_of_lt_of_le g1 hsize, g2⟩
      · obtain ⟨g1, g2⟩ := hI'cases b hb
        refine ⟨g1, ?_⟩
        rcases g2 with g2 | g2
        · exact (hH.imm b g2).2
        · exact .inr (.inr (Nat.le_trans hH.kept.size g2))
    · have hk1 := hH.kept
      have hk2 := hH'.kept
      refine ⟨hk2.os.trans hk1.os, hk2.tape.trans hk1.tape, hk2.output.trans hk1.output, Nat.le_trans hk1.size hsize, fun b h1 h2 => ?_, fun b s hs => hk2.shape b s (hk1.shape b s hs)⟩
      have hlt : b < w.heap.size := Nat.lt_of_lt_of_le h1 hk1.size
      rw [hkeep b hlt]
      exact hk1.block b h1 h2
/-- In a region that draws its order. -/
theorem callm {C : Ctx} {P : Program} {f : FuncId} {z m : Nat} {els' xs : List V} {K : Nat → Nat → List V → Prop} (h : HFn P f xs [.row z []] [] (fun r o => r = .sl 0 0 m ∧ o = [.row z els'])) (hC : C.P = P) (hb : hasBody P f = true) (hx : nrL xs) (hn' : nrL els') (hK : K m z els') : CallNM C f xs K := by
  subst hC
  exact ⟨m, z, els', hb, fresh_c h hx hn', hK⟩
/-- A call of a method on an own variable: it stays where it lies. -/
theorem call_mth {C : Ctx} {P : Program} {f : FuncId} {z : Nat} {els els' xs0 : List V} {R0 : V} {fop : Operand} {args : List Operand} {K : V → ES → Prop} {σ : ES} (h : HFn P f (.ptr 0 0 0 :: xs0) [.row z els] [0] (fun r o => r = R0 ∧ o = [.row z els'])) (hC : C.P = P) (hb : hasBody P f = true)
    (p : Nat) (he : evalC σ fop args = some (f, .ptr p 0 0 :: xs0)) (hx : nrL xs0) (hR : R0.nr) (hrow : σ.heap[p]? = some (some (.row z els))) (hn : nrL els) (hn' : nrL els')
    (hK : fH (σ.heap.set p (some (.row z els'))) fun h => K R0 ⟨σ.n, σ.u, h⟩) : CallN C fop args f (.ptr p 0 0 :: xs0) K σ := by
  rw [fH_eq] at hK
  refine call_h h hC hb he (fun _ => p) ?_ ?_ ?_ [] ?_ ?_ ?_
  · intro i j hi hj _
    simp at hi hj
    omega
  · simp only [rnL]
    exact ⟨.ptr p 0 0, xs0, rfl, by simp [rnV], rnL_self hx⟩
  · intro j o ho
    match j, ho with
    | 0, ho =>
      simp at ho
      subst ho
      exact ⟨_, hrow, els, rfl, rnL_self hn⟩
    | n + 1, ho => simp at ho
  · intro j hj _
    simp at hj
    subst hj
    simp
  · intro id hid
    simp at hid
  · rintro r0 objs' ⟨rfl, rfl⟩ _
    refine ⟨r0, [.row z els'], rnV_nr r0 hR, rfl, ?_, by rw [killUM_nil]; exact hK⟩
    intro j o o' ho ho'
    match j, ho, ho' with
    | 0, ho, ho' =>
      simp at ho ho'
      subst ho; subst ho'
      exact ⟨els', rfl, rnL_self hn'⟩
    | n + 1, ho, _ => simp at ho
theorem Rep.nl {w : World} {I : Nat → Prop} {bl : Nat → Option BI} {v : Value} {x : V} (h : Rep w I bl v x) : Rep w I bl v x.nl := by
  induction h with
  | pure v x h => exact .pure _ _ h.nl
  | nsl id base z h => exact .nsl id base z h
  | sl id off len cap b base z n e h1 h2 h3 h4 h5 => exact .sl id off len cap b base z n e h1 h2 h3 h4 h5
  | esl id off a i h => exact .esl id off a i h
  | ptr id i j b base z n e h1 h2 => exact .ptr id i j b base z n e h1 h2
  | it id b base z h1 => exact .it id b base z h1
  | agg vs l h1 h2 h3 ih =>
    simp only [V.nl]
    refine .agg vs _ (by rw [nlL_length, h1]) h2 (fun i v c hv hc => ?_)
    obtain ⟨x, hx, rfl⟩ := nlL_get l i c hc
    exact ih i v x hv hx
  | fn f vs l h1 h2 ih =>
    simp only [V.nl]
    refine .fn f vs _ (by rw [nlL_length, h1]) (fun i v c hv hc => ?_)
    obtain ⟨x, hx, rfl⟩ := nlL_get l i c hc
    exact ih i v x hv hx
  | tup vs l h1 h2 ih =>
    simp only [V.nl]
    refine .tup vs _ (by rw [nlL_length, h1]) (fun i v c hv hc => ?_)
    obtain ⟨x, hx, rfl⟩ := nlL_get l i c hc
    exact ih i v x hv hx
theorem nlL_append : ∀ a b : List V, nlL (a ++ b) = nlL a ++ nlL b
  | [], b => by simp [nlL]
  | x :: a, b => by simp [nlL, nlL_append a b]
/-- Nil slices among an object's values are empty slices. -/
theorem up_nl {C : Ctx} {K : ES → Prop} (p : Nat) {z n : Nat} {els : List V} {u : List (Nat × V)} {h : List (Option Ob)} (ho : h[p]? = some (some (.row z els))) (hk : UpE C K ⟨n, u, h.set p (some (.row z (nlL els)))⟩) : UpE C K ⟨n, u, h⟩ := by
  refine ⟨up_of_rel (fun a w hr => ?_) hk.out⟩
  obtain ⟨I, bl, hp⟩ := hr.parts
  have hpl : p < h.length := (List.getElem?_eq_some_iff.1 ho).1
  refine RP.rel (I := I) (bl := bl) ⟨hp.defers, hp.env, ⟨fun id o hoo => ?_, fun id i hi => ?_, hp.heap.apart, hp.heap.own, hp.heap.imm, hp.heap.kept⟩⟩
  · have hoo : (h.set p (some (.row z (nlL els))))[id]? = some (some o) := hoo
    by_cases e : id = p
    · subst e
      rw [List.getElem?_set_self hpl] at hoo
      simp only [Option.some.injEq] at hoo
      subst hoo
      obtain ⟨bi, h1, h2, h3, h4⟩ := hp.heap.obj id _ ho
      refine ⟨bi, h1, h2, fun i x hx => ?_, ?_⟩
      · obtain ⟨y, hy, rfl⟩ := nlL_get els i x hx
        rw [nl_cells, nlL_length]; exact h3 i y hy
      · cases hbl : bi.blk with
        | none => simp only [hbl] at h4 ⊢; subst h4; rfl
        | some b =>
          simp only [hbl] at h4 ⊢
          obtain ⟨cur, e, hg, hsz, hc⟩ := h4
          refine ⟨cur, e, hg, by rw [nlL_length]; exact hsz, fun i x j c hx hxc => ?_⟩
          obtain ⟨y, hy, rfl⟩ := nlL_get els i x hx
          rw [nl_cells] at hxc
          obtain ⟨c', hc', rfl⟩ := nlL_get _ j c hxc
          obtain ⟨u, hu, h1', hr'⟩ := hc i y j c' hy hc'
          exact ⟨u, hu, h1', hr'.nl⟩
    · rw [List.getElem?_set_ne (Ne.symm e)] at hoo
      exact hp.heap.obj id o hoo
  · show ∃ o, (h.set p (some (.row z (nlL els))))[id]? = some (some o)
    by_cases e : id = p
    · subst e; exact ⟨_, List.getElem?_set_self hpl⟩
    · rw [List.getElem?_set_ne (Ne.symm e)]
      exact hp.heap.live id i hi
theorem killL_app (id : Nat) (a b : List V) : killL id (a ++ b) = killL id a ++ killL id b := by
  induction a with
  | nil => simp [killL]
  | cons x a ih => simp only [List.cons_append, killL, ih]
theorem frzL_app (id : Nat) (els a b : List V) : frzL id els (a ++ b) = frzL id els a ++ frzL id els b := by
  induction a with
  | nil => simp [frzL]
  | cons x a ih => simp only [List.cons_append, frzL, ih]
theorem nr_i64 : ∀ L : List Int, nrL (L.map (V.int .i64))
  | [] => trivial
  | x :: L => ⟨trivial, nr_i64 L⟩
theorem nr_bools : ∀ L : List Bool, nrL (L.map V.bool)
  | [] => trivial
  | x :: L => ⟨trivial, nr_bools L⟩
theorem nr_strs : ∀ L : List (List UInt8), nrL (L.map V.str)
  | [] => trivial
  | x :: L => ⟨trivial, nr_strs L⟩
theorem mv_nrV (a b : Nat) (x : V) : x.nr → x.mv a b = x := by
  refine V.rec (motive_1 := fun x => x.nr → x.mv a b = x) (motive_2 := fun l => nrL l → mvL a b l = l) ?_ ?_ ?_ ?_ ?_ ?_ ?_ ?_ ?_ ?_ ?_ ?_ ?_ ?_ ?_ ?_ ?_ ?_ ?_ ?_ ?_ x
  all_goals first
    | (intro h; simp [V.mv, mvL]; done)
    | (intro a h; simp [V.mv]; done)
    | (intro a b h; simp [V.mv]; done)
    | (intro a b c h; simp [V.mv]; done)
    | (intro a ih h; simp [V.mv]; done)
    | (intro l ih h; simp only [V.mv]; rw [ih h])
    | (intro f l ih h; simp only [V.mv]; rw [ih h])
    | (intro a b c h; exact (h : False).elim)
    | (intro a h; exact (h : False).elim)
    | (intro x l h1 h2 h; simp only [mvL]; rw [h1 h.1, h2 h.2])
theorem mv_nrL (a b : Nat) : ∀ {l : List V}, nrL l → mvL a b l = l
  | [], _ => by simp [mvL]
  | x :: l, h => by simp only [mvL]; rw [mv_nrV a b x h.1, mv_nrL a b h.2]


end Go.Proofs.YtbdogoccjcifnaaDoor
