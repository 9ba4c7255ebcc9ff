/- strings.Builder's methods as contracts over the call's own objects, and the callers' rules. No conditions. -/
import Derived.Test.YtmjglpdfkkmcoaaDoorBldc
import Derived.Test.YtmjglpdfkkmcoaaDoorAwz
set_option linter.unusedSimpArgs false
set_option linter.unusedVariables false
set_option maxRecDepth 100000
namespace Go.Proofs.YtmjglpdfkkmcoaaDoor
open Go.RowKit

theorem own_nil {v : Value} (h : v = .slice none 0 0) : v.ownBlock = none := by subst h; rfl
theorem h_ws (s t : List UInt8) (hlen : s.length + t.length ≤ 140737488355328) : HFn Tryd.prog 50 [.ptr 0 0 0, .str t] [.bld 113 (some (1, s.length)), .buf 5 s] [0]
    (fun r o => r = .tup [.int .i64 t.length, .any] ∧ o = [.bld 113 (some (1, (s ++ t).length)), .buf 5 (s ++ t)]) := by
  intro w I bl vs hl hvs hH
  match vs, hl with
  | [v0, v1], _ =>
    obtain ⟨b, base, z, n, e, hbl, hsh, rfl⟩ := (hvs 0 v0 _ rfl rfl).inv_ptr
    obtain ⟨t', rfl, rfl, _⟩ := (hvs 1 v1 _ rfl rfl).inv_str
    obtain ⟨b', p, v, h0, hb, hp, hone, hr⟩ := hH.obj 0 _ rfl
    rw [h0] at hbl
    simp only [Option.some.injEq, BI.mk.injEq] at hbl
    obtain ⟨rfl, rfl, rfl⟩ := hbl
    obtain ⟨hv, g0, h1, hg0, hnil⟩ := buf_of hr (hH.obj 1 _ rfl)
    have hg : ∀ k, v.ownBlock = some k → g0 = some k := by
      intro k hk
      by_cases hs : s = []
      · rw [own_nil (hnil hs)] at hk; cases hk
      · rw [hg0 hs]; exact hk
    refine (ws_run b' p v s t' w hb hp hv (by simpa using hlen)).mono ?_
    rintro e w' ⟨rfl, v', hb', hv', hf⟩
    obtain ⟨r1, r2, r3⟩ := buf_to (I := I) (bl := upd bl 1 ⟨v'.ownBlock, 0, 1⟩) hv' (upd_same _ _ _)
    refine ⟨.tuple #[.int .i64 t'.size, .nilIface], _, _, I, upd bl 1 ⟨v'.ownBlock, 0, 1⟩, rfl, ⟨rfl, rfl⟩, rfl, .pure _ _ (Pr.tup [.int .i64 t'.size, .nilIface] _ rfl ?_), heap2 hH h0 h1 hf.os hf.tape hf.output hf.size (fun k hk h2 h3 => hf.block k hk h2 (fun e => h3 (hg k e))) hf.shape (fun g hg' => (hf.own g hg').imp (hg g) id) ⟨b', _, v', by rw [upd_other (by decide)]; exact h0, hb', .inr rfl, r3, ?_⟩ r2, fun j hj => ?_⟩
    · intro i u c hu hc
      match i, hu, hc with
      | 0, hu, hc =>
        simp at hu hc
        subst hu; subst hc
        exact .int _ _
      | 1, hu, hc =>
        simp at hu hc
        subst hu; subst hc
        exact .any _
      | n + 2, hu, hc => simp at hu
    · exact r1
    · simp at hj
      subst hj
      exact upd_other (by decide)
theorem h_str (s : List UInt8) : HFn Tryd.prog 52 [.ptr 0 0 0] [.bld 113 (some (1, s.length)), .buf 5 s] [0]
    (fun r o => r = .str s ∧ o = [.bld 113 none, .buf 5 []]) := by
  intro w I bl vs hl hvs hH
  match vs, hl with
  | [v0], _ =>
    obtain ⟨b, base, z, n, e, hbl, hsh, rfl⟩ := (hvs 0 v0 _ rfl rfl).inv_ptr
    obtain ⟨b', p, v, h0, hb, hp, hone, hr⟩ := hH.obj 0 _ rfl
    rw [h0] at hbl
    simp only [Option.some.injEq, BI.mk.injEq] at hbl
    obtain ⟨rfl, rfl, rfl⟩ := hbl
    obtain ⟨hv, g0, h1, hg0, hnil⟩ := buf_of hr (hH.obj 1 _ rfl)
    have hg : ∀ k, v.ownBlock = some k → g0 = some k := by
      intro k hk
      by_cases hs : s = []
      · rw [own_nil (hnil hs)] at hk; cases hk
      · rw [hg0 hs]; exact hk
    have hmax : s.length ≤ maxLen := by
      rcases hv with ⟨_, rfl⟩ | ⟨g, cap, cur, _, _, _, h1, h2, _⟩
      · exact Nat.zero_le _
      · exact Nat.le_trans h1 h2
    refine (str_run b' p v s w hb hv).mono ?_
    rintro e w' ⟨rfl, hf, hbb⟩
    refine ⟨.string ⟨s.toArray⟩, _, _, I, upd bl 1 ⟨none, 0, 1⟩, rfl, ⟨rfl, rfl⟩, rfl, .pure _ _ ?_, heap2 hH h0 h1 hf.os hf.tape hf.output hf.size (fun k hk h2 h3 => hf.block k hk h2 (fun e => h3 (hg k e))) hf.shape (fun g hg' => by cases hg') ⟨b', p, v, by rw [upd_other (by decide)]; exact h0, hbb.trans hb, hp, hone, .pure _ _ (.any _)⟩ ⟨none, upd_same _ _ _, rfl⟩, fun j hj => ?_⟩
    · have := Pr.str (w := w') (I := I) ⟨s.toArray⟩ (by simpa [ByteArray.size] using hmax)
      simpa using this
    · simp at hj
      subst hj
      exact upd_other (by decide)

/-! ### A new builder gets its buffer's place -/
theorem RP.adoptB {C : Ctx} {σ : St} {a : Act} {w : World} {I : Nat → Prop} {bl : Nat → Option BI} (hp : RP C σ a w I bl) {p : Nat} {T : TypeId} {q0 : Nat} (U : TypeId) (ho : σ.heap[p]? = some (some (.bld T (some (q0, 0))))) :
    RP C { σ with heap := putOb (σ.heap.set p (some (.bld T (some (freshIn σ.heap, 0))))) (.buf U []) } a w I (upd bl (freshIn σ.heap) ⟨none, 0, 1⟩) := by
  have hpl : p < σ.heap.length := (List.getElem?_eq_some_iff.1 ho).1
  have fr : ∀ (l l' : List (Option Ob)), l.length = l'.length → (∀ i : Nat, ((l[i]?).bind fun x => x).isSome = ((l'[i]?).bind fun x => x).isSome) → freshIn l = freshIn l' := by
    intro l
    induction l with
    | nil =>
      intro l' h _
      cases l' with
      | nil => rfl
      | cons _ _ => simp at h
    | cons x l ih =>
      intro l' h hh
      cases l' with
      | nil => simp at h
      | cons y l' =>
        have h0 := hh 0
        have hr := ih l' (by simpa using h) (fun i => by simpa using hh (i + 1))
        cases x <;> cases y <;> simp at h0
        · rfl
        · simp only [freshIn, hr]
  have hfr : freshIn (σ.heap.set p (some (.bld T (some (freshIn σ.heap, 0))))) = freshIn σ.heap := by
    refine fr _ _ (by simp) fun i => ?_
    by_cases e : i = p
    · subst e; rw [List.getElem?_set_self hpl, ho]; rfl
    · rw [List.getElem?_set_ne (Ne.symm e)]
  have hne : p ≠ freshIn σ.heap := fun e => fresh_free σ.heap _ (e ▸ ho)
  generalize hq : freshIn σ.heap = q at *
  have hb : ∀ k i, bl k = some i → upd bl q ⟨none, 0, 1⟩ k = some i := fun k i h => by rw [upd_other (hq ▸ hp.live_ne h)]; exact h
  have hat : (putOb (σ.heap.set p (some (.bld T (some (q, 0))))) (.buf U []))[q]? = some (some (.buf U [])) := by
    have := putOb_fresh (σ.heap.set p (some (.bld T (some (q, 0))))) (.buf U [])
    rwa [hfr] at this
  have hoth : ∀ id, id ≠ q → (putOb (σ.heap.set p (some (.bld T (some (q, 0))))) (.buf U []))[id]? = (σ.heap.set p (some (.bld T (some (q, 0)))))[id]? := fun id h => putOb_other _ _ _ (by rw [hfr]; exact h)
  refine ⟨hp.defers, hp.env.later (Later.refl _ _) (fun _ h => h) hb, ⟨?_, ?_, ?_, ?_, hp.heap.imm, hp.heap.kept⟩⟩
  · intro id o hoo
    have hoo : (putOb (σ.heap.set p (some (.bld T (some (q, 0))))) (.buf U []))[id]? = some (some o) := hoo
    by_cases hid : id = q
    · subst hid
      rw [hat] at hoo
      simp only [Option.some.injEq] at hoo
      subst hoo
      exact ⟨none, upd_same _ _ _, rfl⟩
    · rw [hoth id hid] at hoo
      have old : ∀ o', σ.heap[id]? = some (some o') → ObRep w I (upd bl q ⟨none, 0, 1⟩) id o' := fun o' h => (hp.heap.obj id o' h).later (Later.refl _ _) (fun _ h => h) hb (fun _ _ _ _ => rfl) (fun h => by rw [upd_other hid]; exact h)
      by_cases e : id = p
      · subst e
        rw [List.getElem?_set_self hpl] at hoo
        simp only [Option.some.injEq] at hoo
        subst hoo
        have h9 : ObRep w I (upd bl q ⟨none, 0, 1⟩) id (.bld T (some (q0, 0))) := old _ ho
        exact h9
      · rw [List.getElem?_set_ne (Ne.symm e)] at hoo
        exact old o hoo
  · intro id i h
    show ∃ o, (putOb (σ.heap.set p (some (.bld T (some (q, 0))))) (.buf U []))[id]? = some (some o)
    by_cases hid : id = q
    · subst hid; exact ⟨_, hat⟩
    · rw [upd_other hid] at h
      obtain ⟨o, hoo⟩ := hp.heap.live id i h
      rw [hoth id hid]
      by_cases e : id = p
      · subst e; rw [List.getElem?_set_self hpl]; exact ⟨_, rfl⟩
      · rw [List.getElem?_set_ne (Ne.symm e)]; exact ⟨o, hoo⟩
  · intro id id' i i' b h1 h2 h3 h4
    by_cases hid : id = q
    · subst hid
      rw [upd_same] at h1
      simp only [Option.some.injEq] at h1
      subst h1
      cases h3
    · rw [upd_other hid] at h1
      by_cases hid' : id' = q
      · subst hid'
        rw [upd_same] at h2
        simp only [Option.some.injEq] at h2
        subst h2
        cases h4
      · rw [upd_other hid'] at h2
        exact hp.heap.apart id id' i i' b h1 h2 h3 h4
  · intro id i b h1 h2
    by_cases hid : id = q
    · subst hid
      rw [upd_same] at h1
      simp only [Option.some.injEq] at h1
      subst h1
      cases h2
    · rw [upd_other hid] at h1
      exact hp.heap.own id i b h1 h2
theorem up_buf {C : Ctx} {K : ES → Prop} (p : Nat) (U : TypeId) {n : Nat} {T : TypeId} {q0 : Nat} {u : List (Nat × V)} {h : List (Option Ob)} (ho : h[p]? = some (some (.bld T (some (q0, 0)))))
    (hk : UpE C K ⟨n, u, putOb (h.set p (some (.bld T (some (freshIn h, 0))))) (.buf U [])⟩) : UpE C K ⟨n, u, h⟩ := by
  refine ⟨up_of_rel (fun a w hr => ?_) hk.out⟩
  obtain ⟨I, bl, hp⟩ := hr.parts
  exact (hp.adoptB (p := p) U ho).rel

/-! ### The callers' rules -/
section
variable {C : Ctx} {fop : Operand} {args : List Operand} {xs : List V} {K : V → ES → Prop} {σ : ES}
def rho (p q j : Nat) : Nat := match j with | 0 => p | _ => q
theorem call_bld {f : FuncId} {xs0 xs1 : List V} {s s' : List UInt8} {y : Option (Nat × Nat)} {R0 : V} (hC : C.P = Tryd.prog) (hb : hasBody Tryd.prog f = true) (p q : Nat) (hpq : p ≠ q)
    (h : HFn Tryd.prog f (.ptr 0 0 0 :: xs0) [.bld 113 (some (1, s.length)), .buf 5 s] [0] (fun r o => r = R0 ∧ o = [.bld 113 y, .buf 5 s']))
    (he : evalC σ fop args = some (f, .ptr p 0 0 :: xs1)) (hx : rnL 2 (rho p q) xs0 xs1) (hR : rnV 2 (rho p q) R0 R0) (hy : y = none ∨ ∃ n, y = some (1, n))
    (hp : σ.heap[p]? = some (some (.bld 113 (some (q, s.length))))) (hq : σ.heap[q]? = some (some (.buf 5 s)))
    (hK : killUE q σ.u fun u => fH (((killH q σ.heap).set p (some (.bld 113 (y.map fun y => (q, y.2))))).set q (some (.buf 5 s'))) fun h => K R0 ⟨σ.n, u, h⟩) : CallN C fop args f (.ptr p 0 0 :: xs1) K σ := by
  rw [killUE_eq, fH_eq] at hK
  have yv : ∀ n, rnV 2 (rho p q) (yV (some (1, n))) (yV (some (q, n))) := by
    intro n
    cases n with
    | zero => simp [yV, rnV]
    | succ n => simp [yV, rnV, rho]
  refine call_h h hC hb he (rho p q) ?_ ?_ ?_ [q] ?_ ?_ ?_
  · intro i j hi hj e
    match i, j, hi, hj with
    | 0, 0, _, _ => rfl
    | 1, 1, _, _ => rfl
    | 0, 1, _, _ => exact absurd e hpq
    | 1, 0, _, _ => exact absurd e.symm hpq
    | n + 2, _, hi, _ => simp at hi; omega
    | _, n + 2, _, hj => simp at hj; omega
  · simp only [rnL]
    exact ⟨.ptr p 0 0, xs1, rfl, by simp [rnV, rho], hx⟩
  · intro j o ho
    match j, ho with
    | 0, ho =>
      simp at ho
      subst ho
      exact ⟨_, hp, _, rfl, yv _⟩
    | 1, ho =>
      simp at ho
      subst ho
      exact ⟨_, hq, rfl⟩
    | n + 2, ho => simp at ho
  · intro j hj hn
    match j, hj with
    | 0, _ => simp
    | 1, _ => exact absurd (by simp [rho]) hn
    | n + 2, hj => simp at hj; omega
  · intro id hid
    simp at hid
    exact ⟨1, by simp, hid.symm⟩
  · rintro r0 objs' ⟨rfl, rfl⟩ _
    refine ⟨r0, [.bld 113 (y.map fun y => (q, y.2)), .buf 5 s'], hR, rfl, ?_, ?_⟩
    rotate_left
    · exact hK
    intro j o o' ho ho'
    match j, ho, ho' with
    | 0, ho, ho' =>
      simp at ho ho'
      subst ho; subst ho'
      refine ⟨_, rfl, ?_⟩
      rcases hy with rfl | ⟨n, rfl⟩
      · simp [yV, rnV]
      · exact yv n
    | 1, ho, ho' =>
      simp at ho ho'
      subst ho; subst ho'
      rfl
    | n + 2, ho, _ => simp at ho
theorem call_ws (hC : C.P = Tryd.prog) (p q : Nat) (hpq : p ≠ q) {s t : List UInt8} (hlen : s.length + t.length ≤ 140737488355328) (he : evalC σ fop args = some (50, [.ptr p 0 0, .str t]))
    (hp : σ.heap[p]? = some (some (.bld 113 (some (q, s.length))))) (hq : σ.heap[q]? = some (some (.buf 5 s)))
    (hK : killUE q σ.u fun u => fH (((killH q σ.heap).set p (some (.bld 113 (some (q, (s ++ t).length))))).set q (some (.buf 5 (s ++ t)))) fun h => K (.tup [.int .i64 t.length, .any]) ⟨σ.n, u, h⟩) : CallN C fop args 50 [.ptr p 0 0, .str t] K σ :=
  call_bld hC (by kernel_rfl) p q hpq (h_ws s t hlen) he (by simp [rnL, rnV]) (by simp [rnL, rnV]) (.inr ⟨_, rfl⟩) hp hq hK
theorem call_str (hC : C.P = Tryd.prog) (p q : Nat) (hpq : p ≠ q) {s : List UInt8} (he : evalC σ fop args = some (52, [.ptr p 0 0]))
    (hp : σ.heap[p]? = some (some (.bld 113 (some (q, s.length))))) (hq : σ.heap[q]? = some (some (.buf 5 s)))
    (hK : killUE q σ.u fun u => fH (((killH q σ.heap).set p (some (.bld 113 none))).set q (some (.buf 5 []))) fun h => K (.str s) ⟨σ.n, u, h⟩) : CallN C fop args 52 [.ptr p 0 0] K σ :=
  call_bld hC (by kernel_rfl) p q hpq (h_str s) he (by simp [rnL]) (by simp [rnV]) (.inl rfl) hp hq hK
end
end Go.Proofs.YtmjglpdfkkmcoaaDoor
