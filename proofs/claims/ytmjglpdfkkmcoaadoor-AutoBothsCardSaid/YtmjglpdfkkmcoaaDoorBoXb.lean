/- The table of the states that are told apart, walked. No conditions. -/
import Derived.Test.YtmjglpdfkkmcoaaDoorOwn
import Derived.Test.YtmjglpdfkkmcoaaDoorData
import Derived.Test.YtmjglpdfkkmcoaaDoorAwy
import Derived.Test.YtmjglpdfkkmcoaaDoorBoXa
/-! A nil slice in a field of an own variable is an empty own slice. Nil slices among an object's values. No conditions. -/
set_option linter.unusedSimpArgs false
set_option linter.unusedVariables false
set_option maxRecDepth 100000
namespace Go.Proofs.YtmjglpdfkkmcoaaDoor
open Go.RowKit

theorem fresh_not (h : List (Option Ob)) : ∀ o, h[freshIn h]? ≠ some (some o) := by
  induction h with
  | nil => intro o ho; simp [freshIn] at ho
  | cons x r ih =>
    intro o ho
    cases x with
    | none => simp [freshIn] at ho
    | some y => exact ih o (by simpa [freshIn] using ho)
/-- A field of an own variable holds nil: it holds an own slice of no elements. -/
theorem up_ownF {C : Ctx} {K : ES → Prop} (p c z' : Nat) {z n : Nat} {l : List V} {u : List (Nat × V)} {h : List (Option Ob)} (ho : h[p]? = some (some (.row z [.agg l]))) (hl : l[c]? = some .nils)
    (hk : UpE C K ⟨n, u, (putOb h (.row z' [])).set p (some (.row z [.agg (l.set c (.sl (freshIn h) 0 0))]))⟩) : UpE C K ⟨n, u, h⟩ := by
  refine ⟨up_of_rel (fun a w hr => ?_) hk.out⟩
  obtain ⟨I, bl, hp0⟩ := hr.parts
  have hp := hp0.adopt z'
  have hne : p ≠ freshIn h := fun e => fresh_not h _ (e ▸ ho)
  have ho' : (putOb h (.row z' []))[p]? = some (some (.row z [.agg l])) := (putOb_other h _ p hne).trans ho
  have hpl : p < (putOb h (.row z' [])).length := (List.getElem?_eq_some_iff.1 ho').1
  refine RP.rel (I := I) (bl := upd bl (freshIn h) ⟨none, 0, z'⟩) ⟨hp.defers, hp.env, ⟨fun id o hoo => ?_, fun id i hi => ?_, hp.heap.apart, hp.heap.own, hp.heap.imm, hp.heap.kept⟩⟩
  · have hoo : ((putOb h (.row z' [])).set p (some (.row z [.agg (l.set c (.sl (freshIn h) 0 0))])))[id]? = some (some o) := hoo
    by_cases e : id = p
    · subst e
      rw [List.getElem?_set_self hpl] at hoo
      simp only [Option.some.injEq] at hoo
      subst hoo
      obtain ⟨bi, h1, h2, h3, h4⟩ := hp.heap.obj id _ ho'
      refine ⟨bi, h1, h2, fun i x hx => ?_, ?_⟩
      · cases i with
        | zero =>
          simp only [List.getElem?_cons_zero, Option.some.injEq] at hx
          subst hx
          have := h3 0 (.agg l) rfl
          simp only [V.cells] at this ⊢
          simpa using this
        | succ i => simp at hx
      · cases hbl : bi.blk with
        | none =>
          simp only [hbl] at h4
          cases h4
        | some b =>
          simp only [hbl] at h4 ⊢
          obtain ⟨cur, e, hg, hsz, hc⟩ := h4
          refine ⟨cur, e, hg, by simpa using hsz, fun i x j v hx hxc => ?_⟩
          cases i with
          | succ i => simp at hx
          | zero =>
            simp only [List.getElem?_cons_zero, Option.some.injEq] at hx
            subst hx
            simp only [V.cells] at hxc
            by_cases hj : j = c
            · subst hj
              have hlt : j < l.length := (List.getElem?_eq_some_iff.1 hl).1
              rw [List.getElem?_set_self hlt] at hxc
              simp only [Option.some.injEq] at hxc
              subst hxc
              obtain ⟨y, hy, h1', hr'⟩ := hc 0 (.agg l) j .nils rfl hl
              have := hr'.inv_nils
              subst this
              exact ⟨_, hy, h1', .nsl _ _ _ (upd_same _ _ _)⟩
            · rw [List.getElem?_set_ne (Ne.symm hj)] at hxc
              exact hc 0 (.agg l) j v rfl hxc
    · rw [List.getElem?_set_ne (Ne.symm e)] at hoo
      exact hp.heap.obj id o hoo
  · show ∃ o, ((putOb h (.row z' [])).set p (some (.row z [.agg (l.set c (.sl (freshIn h) 0 0))])))[id]? = some (some o)
    by_cases e : id = p
    · subst e; exact ⟨_, List.getElem?_set_self hpl⟩
    · rw [List.getElem?_set_ne (Ne.symm e)]
      exact hp.heap.live id i hi
end Go.Proofs.YtmjglpdfkkmcoaaDoor

/-! Calls that give a new object of the caller's own: slices.Clone. No conditions. -/
namespace Go.Proofs.YtmjglpdfkkmcoaaDoor
open Go.RowKit

/-- A new empty object, of which nothing is known but that it is there. -/
theorem up_new {C : Ctx} {K : ES → Prop} (z : Nat) {n : Nat} {u : List (Nat × V)} {h : List (Option Ob)} (hk : UpE C K ⟨n, u, putOb h (.row z [])⟩) : UpE C K ⟨n, u, h⟩ := by
  refine ⟨up_of_rel (fun a w hr => ?_) hk.out⟩
  obtain ⟨I, bl, hp⟩ := hr.parts
  exact (hp.adopt z).rel
/-- A call that fills a new object of the caller's. -/
theorem call_fresh {C : Ctx} {P : Program} {f : FuncId} {z m : Nat} {els' xs0 xs1 : List V} {fop : Operand} {args : List Operand} {K : V → ES → Prop} {σ : ES} (h : HFn P f xs0 [.row z []] [] (fun r o => r = .sl 0 0 m ∧ o = [.row z els'])) (hC : C.P = P) (hb : hasBody P f = true)
    (p : Nat) (he : evalC σ fop args = some (f, xs1)) (hx : rnL 1 (fun _ => p) xs0 xs1) (hrow : σ.heap[p]? = some (some (.row z []))) (hn' : nrL els')
    (hK : killUE p σ.u fun u => fH ((killH p σ.heap).set p (some (.row z els'))) fun h => K (.sl p 0 m) ⟨σ.n, u, h⟩) : CallN C fop args f xs1 K σ := by
  rw [killUE_eq, fH_eq] at hK
  refine call_h h hC hb he (fun _ => p) ?_ ?_ ?_ [p] ?_ ?_ ?_
  · intro i j hi hj _
    simp at hi hj
    omega
  · exact hx
  · intro j o ho
    match j, ho with
    | 0, ho =>
      simp at ho
      subst ho
      exact ⟨_, hrow, [], rfl, rnL_self trivial⟩
    | n + 1, ho => simp at ho
  · intro j _ hn
    exact absurd (by simp) hn
  · intro id hid
    simp at hid
    exact ⟨0, by simp, hid.symm⟩
  · rintro r0 objs' ⟨rfl, rfl⟩ _
    refine ⟨.sl p 0 m, [.row z els'], by simp [rnV], rfl, ?_, hK⟩
    intro j o o' ho ho'
    match j, ho, ho' with
    | 0, ho, ho' =>
      simp at ho ho'
      subst ho; subst ho'
      exact ⟨els', rfl, rnL_self hn'⟩
    | n + 1, ho, _ => simp at ho
/-- Such a call, whatever the heap holds. -/
theorem fresh_c {C : Ctx} {f : FuncId} {z m : Nat} {els' xs : List V} (h : HFn C.P f xs [.row z []] [] (fun r o => r = .sl 0 0 m ∧ o = [.row z els'])) (hx : nrL xs) (hn' : nrL els') : FreshC C f xs m z els' := by
  rintro s a w vs ⟨I, bl, hdef, henv, hxs, hH⟩
  have hH : HeapRep C s.heap w I bl := hH
  generalize hp : freshIn s.heap = p
  have hpn : ∀ o, s.heap[p]? ≠ some (some o) := fun o ho => by
    have : ∀ (h : List (Option Ob)) (o : Ob), h[freshIn h]? ≠ some (some o) := by
      intro h
      induction h with
      | nil => intro o ho; simp [freshIn] at ho
      | cons x r ih =>
        intro o ho
        cases x with
        | none => simp [freshIn] at ho
        | some y => exact ih o (by simpa [freshIn] using ho)
    exact this s.heap o (by rw [hp]; exact ho)
  have hblp : bl p = none := by
    cases hb : bl p with
    | none => rfl
    | some i =>
      obtain ⟨o, ho⟩ := hH.live p i hb
      exact absurd ho (hpn o)
  let blc : Nat → Option BI := fun j => if j = 0 then some ⟨none, 0, z⟩ else none
  have hblk : ∀ b, ¬ blocksOf blc b := by
    rintro b ⟨j, i, h1, h2⟩
    by_cases hj : j = 0
    · simp only [blc, if_pos hj, Option.some.injEq] at h1
      subst h1
      cases h2
    · simp only [blc, if_neg hj] at h1
      cases h1
  have hHc : HeapRep ⟨C.P, w, blocksOf blc, I⟩ ([Ob.row z []].map some) w I blc := by
    refine ⟨fun j o ho => ?_, fun j i hj => ?_, fun j j' i i' b h1 h2 h3 h4 => ?_, fun j i b h1 h2 => absurd ⟨j, i, h1, h2⟩ (hblk b), fun b hb => ⟨(hH.imm b hb).1, .inl hb⟩, Kept.refl _ _⟩
    · cases j with
      | zero =>
        simp at ho
        subst ho
        exact ⟨_, rfl, rfl, fun i x hx => by simp at hx, rfl⟩
      | succ j => simp at ho
    · by_cases e : j = 0
      · subst e; exact ⟨_, rfl⟩
      · simp only [blc, if_neg e] at hj; cases hj
    · exact absurd ⟨j, i, h1, h3⟩ (hblk b)
  refine (h w I blc vs hxs.1 (fun i v x hv hx' => ?_) hHc).mono ?_
  · have hself := rnL_self (k := 0) (ρ := id) hx
    obtain ⟨hxl, hxr⟩ := rnL_get hself
    exact rep_down (k := 0) (ρ := id) (fun j hj => absurd hj (Nat.not_lt_zero j)) x v x (hxr i x x hx' hx') (hxs.2 i v x hv hx')
  rintro e w' ⟨v, r0, objs', I', bl', rfl, ⟨rfl, rfl⟩, _, hrep, hH', _⟩
  have hown' : ∀ j i b, bl' j = some i → i.blk = some b → b < w'.heap.size ∧ ¬ I' b ∧ (blocksOf blc b ∨ w.heap.size ≤ b) := fun j i b h1 h2 => hH'.own j i b h1 h2
  have hown0 : ∀ j i b, bl' j = some i → i.blk = some b → w.heap.size ≤ b := fun j i b h1 h2 => (hown' j i b h1 h2).2.2.elim (fun h => absurd h (hblk b)) id
  have hkeep : ∀ b, b < w.heap.size → w'.heap[b]? = w.heap[b]? := fun b h1 => hH'.kept.block b h1 (hblk b)
  have hsize : w.heap.size ≤ w'.heap.size := hH'.kept.size
  have hlater : Later I w w' := ⟨fun b hb => hkeep b (hH.imm b hb).1, hH'.kept.shape⟩
  let I2 : Nat → Prop := fun b => I b ∨ I' b
  let bl2 : Nat → Option BI := fun id => if id = p then bl' 0 else bl id
  have hin : ∀ j, j < 1 → bl2 ((fun _ => p) j) = bl' j := fun j hj => by
    have : j = 0 := by omega
    subst this
    simp only [bl2, if_pos rfl]
  have hout : ∀ id, id ≠ p → bl2 id = bl id := fun id hid => by simp only [bl2, if_neg hid]
  have hbl2 : ∀ id i, bl id = some i → bl2 id = some i := fun id i hi => by
    by_cases e : id = p
    · subst e; rw [hblp] at hi; cases hi
    · rw [hout id e]; exact hi
  have hI2 : ∀ b, I b → I2 b := fun b hb => .inl hb
  have hI2' : ∀ b, I' b → I2 b := fun b hb => .inr hb
  have hI'cases : ∀ b, I' b → b < w'.heap.size ∧ (I b ∨ w.heap.size ≤ b) := fun b hb => by
    obtain ⟨g1, g2⟩ := hH'.imm b hb
    exact ⟨g1, g2.elim .inl fun h => h.elim (fun h => absurd h (hblk b)) .inr⟩
  have hoth : ∀ id, id ≠ p → (putOb s.heap (.row z els'))[id]? = s.heap[id]? := fun id hid => putOb_other _ _ _ (by rw [hp]; exact hid)
  have hatp : (putOb s.heap (.row z els'))[p]? = some (some (.row z els')) := by rw [← hp]; exact putOb_fresh _ _
  refine ⟨v, .sl p 0 m, ⟨s.env, putOb s.heap (.row z els')⟩, rfl, ⟨rfl, rfl⟩, I2, bl2, hdef, henv.later hlater hI2 hbl2, ⟨rfl, fun i v' x hv hx' => ?_⟩, ?_⟩
  · cases i with
    | succ i => simp at hv
    | zero =>
      simp at hv hx'
      subst hv; subst hx'
      exact rep_up hI2' hin hrep _ (by simp [rnV])
  · refine ⟨fun id o ho => ?_, fun id i hi => ?_, fun id id' i i' b h1 h2 h3 h4 => ?_, fun id i b h1 h2 => ?_, fun b hb => ?_, ?_⟩
    · have ho : (putOb s.heap (.row z els'))[id]? = some (some o) := ho
      by_cases e : id = p
      · subst e
        rw [hatp] at ho
        simp only [Option.some.injEq] at ho
        subst ho
        exact ob_up (ρ := fun _ => id) hI2' hin (Nat.lt_succ_self 0) (o := .row z els') (o' := .row z els') ⟨els', rfl, rnL_self hn'⟩ (hH'.obj 0 _ rfl)
      · rw [hoth id e] at ho
        exact (hH.obj id o ho).later hlater hI2 hbl2 (fun i b h1 h2 => hkeep b (hH.own id i b h1 h2).1) (fun h => by rw [hout id e]; exact h)
    · show ∃ o, (putOb s.heap (.row z els'))[id]? = some (some o)
      by_cases e : id = p
      · subst e; exact ⟨_, hatp⟩
      · rw [hoth id e]
        rw [hout id e] at hi
        exact hH.live id i hi
    · by_cases e : id = p
      · by_cases e' : id' = p
        · rw [e, e']
        · rw [hout id' e'] at h2
          rw [e] at h1
          have h1 : bl' 0 = some i := by rw [← hin 0 (by omega)]; exact h1
          have := hown0 0 i b h1 h3
          have := (hH.own id' i' b h2 h4).1
          omega
      · rw [hout id e] at h1
        by_cases e' : id' = p
        · rw [e'] at h2
          have h2 : bl' 0 = some i' := by rw [← hin 0 (by omega)]; exact h2
          have := hown0 0 i' b h2 h4
          have := (hH.own id i b h1 h3).1
          omega
        · rw [hout id' e'] at h2
          exact hH.apart id id' i i' b h1 h2 h3 h4
    · by_cases e : id = p
      · rw [e] at h1
        have h1 : bl' 0 = some i := by rw [← hin 0 (by omega)]; exact h1
        have g0 := hown0 0 i b h1 h2
        obtain ⟨g1, g2, _⟩ := hown' 0 i b h1 h2
        refine ⟨g1, fun hb => ?_, .inr (Nat.le_trans hH.kept.size g0)⟩
        rcases hb with hb | hb
        · have := (hH.imm b hb).1; omega
        · exact g2 hb
      · rw [hout id e] at h1
        obtain ⟨g1, g2, g3⟩ := hH.own id i b h1 h2
        refine ⟨Nat.lt_of_lt_of_le g1 hsize, fun hb => ?_, g3⟩
        rcases hb with hb | hb
        · exact g2 hb
        · rcases (hI'cases b hb).2 with h5 | h5
          · exact g2 h5
          · omega
    · rcases hb with hb | hb
      · obtain ⟨g1, g2⟩ := hH.imm b hb
        exact ⟨Nat.lt_of_lt_of_le g1 hsize, g2⟩
      · obtain ⟨g1, g2⟩ := hI'cases b hb
        refine ⟨g1, ?_⟩
        rcases g2 with g2 | g2
        · exact (hH.imm b g2).2
        · exact .inr (.inr (Nat.le_trans hH.kept.size g2))
    · have hk1 := hH.kept
      have hk2 := hH'.kept
      refine ⟨hk2.os.trans hk1.os, hk2.tape.trans hk1.tape, hk2.output.trans hk1.output, Nat.le_trans hk1.size hsize, fun b h1 h2 => ?_, fun b s hs => hk2.shape b s (hk1.shape b s hs)⟩
      have hlt : b < w.heap.size := Nat.lt_of_lt_of_le h1 hk1.size
      rw [hkeep b hlt]
      exact hk1.block b h1 h2
/-- In a region that draws its order. -/
theorem callm {C : Ctx} {P : Program} {f : FuncId} {z m : Nat} {els' xs : List V} {K : Nat → Nat → List V → Prop} (h : HFn P f xs [.row z []] [] (fun r o => r = .sl 0 0 m ∧ o = [.row z els'])) (hC : C.P = P) (hb : hasBody P f = true) (hx : nrL xs) (hn' : nrL els') (hK : K m z els') : CallNM C f xs K := by
  subst hC
  exact ⟨m, z, els', hb, fresh_c h hx hn', hK⟩
/-- A call of a method on an own variable: it stays where it lies. -/
theorem call_mth {C : Ctx} {P : Program} {f : FuncId} {z : Nat} {els els' xs0 : List V} {R0 : V} {fop : Operand} {args : List Operand} {K : V → ES → Prop} {σ : ES} (h : HFn P f (.ptr 0 0 0 :: xs0) [.row z els] [0] (fun r o => r = R0 ∧ o = [.row z els'])) (hC : C.P = P) (hb : hasBody P f = true)
    (p : Nat) (he : evalC σ fop args = some (f, .ptr p 0 0 :: xs0)) (hx : nrL xs0) (hR : R0.nr) (hrow : σ.heap[p]? = some (some (.row z els))) (hn : nrL els) (hn' : nrL els')
    (hK : fH (σ.heap.set p (some (.row z els'))) fun h => K R0 ⟨σ.n, σ.u, h⟩) : CallN C fop args f (.ptr p 0 0 :: xs0) K σ := by
  rw [fH_eq] at hK
  refine call_h h hC hb he (fun _ => p) ?_ ?_ ?_ [] ?_ ?_ ?_
  · intro i j hi hj _
    simp at hi hj
    omega
  · simp only [rnL]
    exact ⟨.ptr p 0 0, xs0, rfl, by simp [rnV], rnL_self hx⟩
  · intro j o ho
    match j, ho with
    | 0, ho =>
      simp at ho
      subst ho
      exact ⟨_, hrow, els, rfl, rnL_self hn⟩
    | n + 1, ho => simp at ho
  · intro j hj _
    simp at hj
    subst hj
    simp
  · intro id hid
    simp at hid
  · rintro r0 objs' ⟨rfl, rfl⟩ _
    refine ⟨r0, [.row z els'], rnV_nr r0 hR, rfl, ?_, by rw [killUM_nil]; exact hK⟩
    intro j o o' ho ho'
    match j, ho, ho' with
    | 0, ho, ho' =>
      simp at ho ho'
      subst ho; subst ho'
      exact ⟨els', rfl, rnL_self hn'⟩
    | n + 1, ho, _ => simp at ho
theorem Rep.nl {w : World} {I : Nat → Prop} {bl : Nat → Option BI} {v : Value} {x : V} (h : Rep w I bl v x) : Rep w I bl v x.nl := by
  induction h with
  | pure v x h => exact .pure _ _ h.nl
  | nsl id base z h => exact .nsl id base z h
  | sl id off len cap b base z n e h1 h2 h3 h4 h5 => exact .sl id off len cap b base z n e h1 h2 h3 h4 h5
  | esl id off a i h => exact .esl id off a i h
  | ptr id i j b base z n e h1 h2 => exact .ptr id i j b base z n e h1 h2
  | it id b base z h1 => exact .it id b base z h1
  | agg vs l h1 h2 h3 ih =>
    simp only [V.nl]
    refine .agg vs _ (by rw [nlL_length, h1]) h2 (fun i v c hv hc => ?_)
    obtain ⟨x, hx, rfl⟩ := nlL_get l i c hc
    exact ih i v x hv hx
  | fn f vs l h1 h2 ih =>
    simp only [V.nl]
    refine .fn f vs _ (by rw [nlL_length, h1]) (fun i v c hv hc => ?_)
    obtain ⟨x, hx, rfl⟩ := nlL_get l i c hc
    exact ih i v x hv hx
  | tup vs l h1 h2 ih =>
    simp only [V.nl]
    refine .tup vs _ (by rw [nlL_length, h1]) (fun i v c hv hc => ?_)
    obtain ⟨x, hx, rfl⟩ := nlL_get l i c hc
    exact ih i v x hv hx
theorem nlL_append : ∀ a b : List V, nlL (a ++ b) = nlL a ++ nlL b
  | [], b => by simp [nlL]
  | x :: a, b => by simp [nlL, nlL_append a b]
/-- Nil slices among an object's values are empty slices. -/
theorem up_nl {C : Ctx} {K : ES → Prop} (p : Nat) {z n : Nat} {els : List V} {u : List (Nat × V)} {h : List (Option Ob)} (ho : h[p]? = some (some (.row z els))) (hk : UpE C K ⟨n, u, h.set p (some (.row z (nlL els)))⟩) : UpE C K ⟨n, u, h⟩ := by
  refine ⟨up_of_rel (fun a w hr => ?_) hk.out⟩
  obtain ⟨I, bl, hp⟩ := hr.parts
  have hpl : p < h.length := (List.getElem?_eq_some_iff.1 ho).1
  refine RP.rel (I := I) (bl := bl) ⟨hp.defers, hp.env, ⟨fun id o hoo => ?_, fun id i hi => ?_, hp.heap.apart, hp.heap.own, hp.heap.imm, hp.heap.kept⟩⟩
  · have hoo : (h.set p (some (.row z (nlL els))))[id]? = some (some o) := hoo
    by_cases e : id = p
    · subst e
      rw [List.getElem?_set_self hpl] at hoo
      simp only [Option.some.injEq] at hoo
      subst hoo
      obtain ⟨bi, h1, h2, h3, h4⟩ := hp.heap.obj id _ ho
      refine ⟨bi, h1, h2, fun i x hx => ?_, ?_⟩
      · obtain ⟨y, hy, rfl⟩ := nlL_get els i x hx
        rw [nl_cells, nlL_length]; exact h3 i y hy
      · cases hbl : bi.blk with
        | none => simp only [hbl] at h4 ⊢; subst h4; rfl
        | some b =>
          simp only [hbl] at h4 ⊢
          obtain ⟨cur, e, hg, hsz, hc⟩ := h4
          refine ⟨cur, e, hg, by rw [nlL_length]; exact hsz, fun i x j c hx hxc => ?_⟩
          obtain ⟨y, hy, rfl⟩ := nlL_get els i x hx
          rw [nl_cells] at hxc
          obtain ⟨c', hc', rfl⟩ := nlL_get _ j c hxc
          obtain ⟨u, hu, h1', hr'⟩ := hc i y j c' hy hc'
          exact ⟨u, hu, h1', hr'.nl⟩
    · rw [List.getElem?_set_ne (Ne.symm e)] at hoo
      exact hp.heap.obj id o hoo
  · show ∃ o, (h.set p (some (.row z (nlL els))))[id]? = some (some o)
    by_cases e : id = p
    · subst e; exact ⟨_, List.getElem?_set_self hpl⟩
    · rw [List.getElem?_set_ne (Ne.symm e)]
      exact hp.heap.live id i hi
theorem killL_app (id : Nat) (a b : List V) : killL id (a ++ b) = killL id a ++ killL id b := by
  induction a with
  | nil => simp [killL]
  | cons x a ih => simp only [List.cons_append, killL, ih]
theorem frzL_app (id : Nat) (els a b : List V) : frzL id els (a ++ b) = frzL id els a ++ frzL id els b := by
  induction a with
  | nil => simp [frzL]
  | cons x a ih => simp only [List.cons_append, frzL, ih]
theorem nr_i64 : ∀ L : List Int, nrL (L.map (V.int .i64))
  | [] => trivial
  | x :: L => ⟨trivial, nr_i64 L⟩
theorem nr_bools : ∀ L : List Bool, nrL (L.map V.bool)
  | [] => trivial
  | x :: L => ⟨trivial, nr_bools L⟩
theorem nr_strs : ∀ L : List (List UInt8), nrL (L.map V.str)
  | [] => trivial
  | x :: L => ⟨trivial, nr_strs L⟩
theorem mv_nrV (a b : Nat) (x : V) : x.nr → x.mv a b = x := by
  refine V.rec (motive_1 := fun x => x.nr → x.mv a b = x) (motive_2 := fun l => nrL l → mvL a b l = l) ?_ ?_ ?_ ?_ ?_ ?_ ?_ ?_ ?_ ?_ ?_ ?_ ?_ ?_ ?_ ?_ ?_ ?_ ?_ x
  all_goals first
    | (intro h; simp [V.mv, mvL]; done)
    | (intro a h; simp [V.mv]; done)
    | (intro a b h; simp [V.mv]; done)
    | (intro a b c h; simp [V.mv]; done)
    | (intro a ih h; simp [V.mv]; done)
    | (intro l ih h; simp only [V.mv]; rw [ih h])
    | (intro f l ih h; simp only [V.mv]; rw [ih h])
    | (intro a b c h; exact (h : False).elim)
    | (intro a h; exact (h : False).elim)
    | (intro x l h1 h2 h; simp only [mvL]; rw [h1 h.1, h2 h.2])
theorem mv_nrL (a b : Nat) : ∀ {l : List V}, nrL l → mvL a b l = l
  | [], _ => by simp [mvL]
  | x :: l, h => by simp only [mvL]; rw [mv_nrV a b x h.1, mv_nrL a b h.2]

theorem h_clone_bool (l : List Bool) (hl : l.length ≤ 1048576) : HFn Tryd.prog 49 [.lst (l.map V.bool)] [.row 1 []] [] (fun r o => r = .sl 0 0 l.length ∧ o = [.row 1 (l.map V.bool)]) := by
  have hlm : (l.map V.bool).length = l.length := by simp
  have hcl : ∀ y ∈ l.map V.bool, y.cells.length = 1 := fun y hy => by obtain ⟨q, _, rfl⟩ := List.mem_map.1 hy; rfl
  have hkl : killL 2 (List.take 0 (List.drop 0 []) ++ l.map V.bool) = l.map V.bool := by rw [List.drop_nil, List.take_nil, List.nil_append, kill_nrL _ (nr_bools l)]
  refine hfnE (T := Tryd.tt) Tryd.func49 rfl tt_all follows_all ?_ ?_ fun C vs hC hE => ?_
  · kernel_rfl
  · exact Nat.le_of_ble_eq_true (by kernel_rfl)
  conv => whnf
  repeat' (first | (refine brd_t (by first | assumption | omega) ?_; conv => whnf) | (refine brd_f (by first | assumption | omega) ?_; conv => whnf) | (refine ask (by first | assumption | omega) ?_; conv => whnf) | (refine fit64 (by omega) ?_; conv => whnf) | (refine fit (by simp only [kmin, kmax]; omega) ?_; conv => whnf) | (refine br_t (by assumption) ?_; conv => whnf) | (refine br_f (by assumption) ?_; conv => whnf) | (refine get_of (by assumption) ?_; conv => whnf) | (refine get_map (by assumption) ?_; conv => whnf) | (refine ⟨hcl, ?_⟩; conv => whnf) | (refine draw_lex hE ?_ ?_; decide +kernel; conv => whnf) | (refine brd (fun h => ?_) (fun h => ?_) <;> conv => whnf) | (refine br (fun h => ?_) (fun h => ?_) <;> conv => whnf) | (refine ret_now hE ?_; conv => whnf) | (intro hlen; conv => whnf) | (refine seg_here ?_; conv => whnf) | (refine both ?_ ?_ <;> conv => whnf))
  · have h0 : l = [] := by have := hlen (by assumption); simpa using this
    subst h0
    refine hret_up (up_own 2 1 rfl rfl (up_drop 0 (up_move 2 0 (by decide) rfl rfl (up_here (hret_now hE ?_)))))
    conv => whnf
    exact ⟨rfl, rfl, rfl, rfl⟩
  · refine hret_up (up_drop 0 (up_move 2 0 (by decide) rfl rfl (up_here (hret_now hE ?_))))
    conv => whnf
    refine ⟨rfl, rfl, ?_, ?_⟩
    · show V.sl 0 0 (0 + (l.map V.bool).length) = V.sl 0 0 l.length
      rw [hlm, Nat.zero_add]
    · rw [hkl]
      show [Ob.row 1 (mvL 2 0 (killL 0 (l.map V.bool)))] = _
      rw [kill_nrL _ (nr_bools l), mv_nrL _ _ (nr_bools l)]

end Go.Proofs.YtmjglpdfkkmcoaaDoor

/-! A result's variable whose two fields name own rows: the rows are frozen, all else is forgotten. No conditions. -/
namespace Go.Proofs.YtmjglpdfkkmcoaaDoor
open Go.RowKit

section
variable {C : Ctx} {K : ES → Prop}
theorem solo_get {p k : Nat} {x : Ob} {o : Ob} (h : (List.replicate p none ++ [some x])[k]? = some (some o)) : k = p ∧ o = x := by
  rw [List.getElem?_append] at h
  split at h
  · rename_i hk
    simp at hk
    rw [List.getElem?_replicate, if_pos hk] at h
    cases h
  · rename_i hk
    simp at hk
    have : k - (List.replicate p (none : Option Ob)).length = k - p := by simp
    rw [this] at h
    match hj : k - p with
    | 0 => rw [hj] at h; cases h; exact ⟨by omega, rfl⟩
    | j + 1 => rw [hj] at h; simp at h
theorem solo_at (p : Nat) (x : Ob) : (List.replicate p none ++ [some x])[p]? = some (some x) := by
  rw [List.getElem?_append_right (by simp)]
  simp
/-- All but one object, and one pointer to it, is forgotten. -/
theorem up_solo (p t : Nat) {z n : Nat} {els : List V} {u : List (Nat × V)} {h : List (Option Ob)} (ho : h[p]? = some (some (.row z els))) (hnr : nrL els) (ht : lookU u t = .ptr p 0 0)
    (hk : UpE C K ⟨n, [(t, .ptr p 0 0)], List.replicate p none ++ [some (.row z els)]⟩) : UpE C K ⟨n, u, h⟩ := by
  refine up_to' [t] ?_
  refine ⟨up_of_rel (fun a w hr => ?_) hk.out⟩
  obtain ⟨I, bl, hp⟩ := hr.parts
  refine RP.rel (I := I) (bl := fun k => if k = p then bl p else none) ⟨hp.defers, ⟨by have := hp.env.1; simpa [ES.st, ES.env] using this, fun i v x hv hx => ?_⟩, ⟨fun id o hoo => ?_, fun id i hi => ?_, fun id id' i i' b h1 h2 h3 h4 => ?_, fun id i b h1 h2 => ?_, hp.heap.imm, hp.heap.kept⟩⟩
  · have hx : (ES.env ⟨n, [(t, .ptr p 0 0)], List.replicate p none ++ [some (.row z els)]⟩)[i]? = some x := hx
    have hx' : (ES.env ⟨n, keepU [t] u, h⟩)[i]? = some x := by
      have e : keepU [t] u = [(t, .ptr p 0 0)] := by simp [keepU, ht]
      rw [e]
      simpa [ES.env] using hx
    have hrep := hp.env.2 i v x hv hx'
    unfold ES.env at hx
    rw [List.getElem?_map, Option.map_eq_some_iff] at hx
    obtain ⟨s, _, rfl⟩ := hx
    by_cases e : s = t
    · subst e
      have e2 : lookU [(s, V.ptr p 0 0)] s = .ptr p 0 0 := by simp [lookU]
      rw [e2] at hrep ⊢
      obtain ⟨b, base, z', m, e', h1, h2, rfl⟩ := hrep.inv_ptr
      exact .ptr p 0 0 b base z' m e' (by simp [h1]) h2
    · have e2 : lookU [(t, V.ptr p 0 0)] s = .any := by
        have : Nat.beq s t = false := by cases hb : Nat.beq s t with
          | false => rfl
          | true => exact absurd (Nat.eq_of_beq_eq_true hb) e
        simp [lookU, this]
      rw [e2]
      exact .pure _ _ (.any _)
  · obtain ⟨rfl, rfl⟩ := solo_get (show (List.replicate p none ++ [some (Ob.row z els)])[id]? = some (some o) from hoo)
    obtain ⟨bi, h1, h2, h3, h4⟩ := hp.heap.obj id _ ho
    refine ⟨bi, by simpa using h1, h2, h3, ?_⟩
    cases hb : bi.blk with
    | none => simpa only [hb] using h4
    | some b =>
      simp only [hb] at h4 ⊢
      obtain ⟨cur, e, hg, hsz, hc⟩ := h4
      refine ⟨cur, e, hg, hsz, fun i x j c hx hxc => ?_⟩
      obtain ⟨v, hv, h1', hr'⟩ := hc i x j c hx hxc
      exact ⟨v, hv, h1', .pure _ _ (hr'.pr (nr_cells (nrL_get els i x hnr hx) j c hxc))⟩
  · have hi : (if id = p then bl p else none) = some i := hi
    split at hi
    · rename_i e
      subst e
      exact ⟨_, solo_at _ _⟩
    · cases hi
  · have h1 : (if id = p then bl p else none) = some i := h1
    have h2 : (if id' = p then bl p else none) = some i' := h2
    split at h1
    · rename_i e1
      split at h2
      · rename_i e2
        rw [e1, e2]
      · cases h2
    · cases h1
  · have h1 : (if id = p then bl p else none) = some i := h1
    split at h1
    · exact hp.heap.own p i b h1 h2
    · cases h1
theorem frz_self (id : Nat) (els : List V) {m : Nat} (hm : m = els.length) : (V.sl id 0 m).frz id els = .lst els := by
  subst hm
  simp [V.frz]
theorem frz_otherS {id i off m : Nat} (els : List V) (h : i ≠ id) : (V.sl i off m).frz id els = .sl i off m := by simp [V.frz, h]
theorem up_cell2 (p t a b : Nat) {za zb n m1 m2 : Nat} {la lb : List V} {u : List (Nat × V)} {h : List (Option Ob)} (ho : h[p]? = some (some (.row 2 [.agg [.sl a 0 m1, .sl b 0 m2]]))) (ht : lookU u t = .ptr p 0 0)
    (ha : h[a]? = some (some (.row za la))) (hb : h[b]? = some (some (.row zb lb))) (hab : a ≠ b) (hpa : p ≠ a) (hpb : p ≠ b) (na : nrL la) (nb : nrL lb) (e1 : m1 = la.length) (e2 : m2 = lb.length)
    (hk : UpE C K ⟨n, [(t, .ptr p 0 0)], List.replicate p none ++ [some (.row 2 [.agg [.lst la, .lst lb]])]⟩) : UpE C K ⟨n, u, h⟩ := by
  refine up_freeze a ha na ?_
  have hb' : ((frzH a la h).set a none)[b]? = some (some (.row zb lb)) := by
    rw [List.getElem?_set_ne hab, frzH_live a la h b _ hb]
    simp [Ob.frz, frz_nrL _ _ nb]
  have ho' : ((frzH a la h).set a none)[p]? = some (some (.row 2 [.agg [.lst la, .sl b 0 m2]])) := by
    rw [List.getElem?_set_ne (Ne.symm hpa), frzH_live a la h p _ ho]
    simp only [Ob.frz, frzL, V.frz]
    rw [if_pos trivial, if_pos (by omega), if_neg (Ne.symm hab), List.drop_zero, List.take_of_length_le (by omega)]
  refine up_freeze b hb' nb ?_
  refine up_solo p t (z := 2) (els := [.agg [.lst la, .lst lb]]) ?_ ⟨⟨trivial, trivial, trivial⟩, trivial⟩ ?_ hk
  · rw [List.getElem?_set_ne (Ne.symm hpb), frzH_live b lb _ p _ ho']
    simp only [Ob.frz, frzL, V.frz]
    rw [if_pos trivial, if_pos (by omega), List.drop_zero, List.take_of_length_le (by omega)]
  · rw [lookU_frz, lookU_frz, ht]
    simp [V.frz, hpa, hpb]
/-- All but one object, and one pointer to it, is forgotten. -/
theorem up_soloS (p t q : Nat) {y : V} {z n : Nat} {els : List V} {u : List (Nat × V)} {h : List (Option Ob)} (ho : h[p]? = some (some (.row z els))) (hnr : nrL els) (ht : lookU u t = .ptr p 0 0) (hqt : q ≠ t) (hq : lookU u q = y) (hy : y.nr)
    (hk : UpE C K ⟨n, [(t, .ptr p 0 0), (q, y)], List.replicate p none ++ [some (.row z els)]⟩) : UpE C K ⟨n, u, h⟩ := by
  refine up_to' [t, q] ?_
  refine ⟨up_of_rel (fun a w hr => ?_) hk.out⟩
  obtain ⟨I, bl, hp⟩ := hr.parts
  refine RP.rel (I := I) (bl := fun k => if k = p then bl p else none) ⟨hp.defers, ⟨by have := hp.env.1; simpa [ES.st, ES.env] using this, fun i v x hv hx => ?_⟩, ⟨fun id o hoo => ?_, fun id i hi => ?_, fun id id' i i' b h1 h2 h3 h4 => ?_, fun id i b h1 h2 => ?_, hp.heap.imm, hp.heap.kept⟩⟩
  · have hx : (ES.env ⟨n, [(t, .ptr p 0 0), (q, y)], List.replicate p none ++ [some (.row z els)]⟩)[i]? = some x := hx
    have hx' : (ES.env ⟨n, keepU [t, q] u, h⟩)[i]? = some x := by
      have e : keepU [t, q] u = [(t, .ptr p 0 0), (q, y)] := by simp [keepU, ht, hq]
      rw [e]
      simpa [ES.env] using hx
    have hrep := hp.env.2 i v x hv hx'
    unfold ES.env at hx
    rw [List.getElem?_map, Option.map_eq_some_iff] at hx
    obtain ⟨s, _, rfl⟩ := hx
    have hrep : Rep w I bl v (lookU [(t, V.ptr p 0 0), (q, y)] s) := hrep
    show Rep w I _ v (lookU [(t, V.ptr p 0 0), (q, y)] s)
    by_cases e : s = t
    · subst e
      have e2 : lookU [(s, V.ptr p 0 0), (q, y)] s = .ptr p 0 0 := by simp [lookU]
      rw [e2] at hrep ⊢
      obtain ⟨b, base, z', m, e', h1, h2, rfl⟩ := hrep.inv_ptr
      exact .ptr p 0 0 b base z' m e' (by simp [h1]) h2
    · have e1 : Nat.beq s t = false := by cases hb : Nat.beq s t with
          | false => rfl
          | true => exact absurd (Nat.eq_of_beq_eq_true hb) e
      by_cases e3 : s = q
      · subst e3
        have e2 : lookU [(t, V.ptr p 0 0), (s, y)] s = y := by simp [lookU, e1]
        rw [e2] at hrep ⊢
        exact .pure _ _ (hrep.pr hy)
      · have e4 : Nat.beq s q = false := by cases hb : Nat.beq s q with
            | false => rfl
            | true => exact absurd (Nat.eq_of_beq_eq_true hb) e3
        have e2 : lookU [(t, V.ptr p 0 0), (q, y)] s = .any := by simp [lookU, e1, e4]
        rw [e2]
        exact .pure _ _ (.any _)
  · obtain ⟨rfl, rfl⟩ := solo_get (show (List.replicate p none ++ [some (Ob.row z els)])[id]? = some (some o) from hoo)
    obtain ⟨bi, h1, h2, h3, h4⟩ := hp.heap.obj id _ ho
    refine ⟨bi, by simpa using h1, h2, h3, ?_⟩
    cases hb : bi.blk with
    | none => simpa only [hb] using h4
    | some b =>
      simp only [hb] at h4 ⊢
      obtain ⟨cur, e, hg, hsz, hc⟩ := h4
      refine ⟨cur, e, hg, hsz, fun i x j c hx hxc => ?_⟩
      obtain ⟨v, hv, h1', hr'⟩ := hc i x j c hx hxc
      exact ⟨v, hv, h1', .pure _ _ (hr'.pr (nr_cells (nrL_get els i x hnr hx) j c hxc))⟩
  · have hi : (if id = p then bl p else none) = some i := hi
    split at hi
    · rename_i e
      subst e
      exact ⟨_, solo_at _ _⟩
    · cases hi
  · have h1 : (if id = p then bl p else none) = some i := h1
    have h2 : (if id' = p then bl p else none) = some i' := h2
    split at h1
    · rename_i e1
      split at h2
      · rename_i e2
        rw [e1, e2]
      · cases h2
    · cases h1
  · have h1 : (if id = p then bl p else none) = some i := h1
    split at h1
    · exact hp.heap.own p i b h1 h2
    · cases h1
theorem up_cell2S (p t q a b : Nat) {y : V} {za zb n m1 m2 : Nat} {la lb : List V} {u : List (Nat × V)} {h : List (Option Ob)} (ho : h[p]? = some (some (.row 2 [.agg [.sl a 0 m1, .sl b 0 m2]]))) (ht : lookU u t = .ptr p 0 0)
    (ha : h[a]? = some (some (.row za la))) (hb : h[b]? = some (some (.row zb lb))) (hab : a ≠ b) (hpa : p ≠ a) (hpb : p ≠ b) (na : nrL la) (nb : nrL lb) (e1 : m1 = la.length) (e2 : m2 = lb.length) (hqt : q ≠ t) (hq : lookU u q = y) (hy : scV y = true)
    (hk : UpE C K ⟨n, [(t, .ptr p 0 0), (q, y)], List.replicate p none ++ [some (.row 2 [.agg [.lst la, .lst lb]])]⟩) : UpE C K ⟨n, u, h⟩ := by
  refine up_freeze a ha na ?_
  have hb' : ((frzH a la h).set a none)[b]? = some (some (.row zb lb)) := by
    rw [List.getElem?_set_ne hab, frzH_live a la h b _ hb]
    simp [Ob.frz, frz_nrL _ _ nb]
  have ho' : ((frzH a la h).set a none)[p]? = some (some (.row 2 [.agg [.lst la, .sl b 0 m2]])) := by
    rw [List.getElem?_set_ne (Ne.symm hpa), frzH_live a la h p _ ho]
    simp only [Ob.frz, frzL, V.frz]
    rw [if_pos trivial, if_pos (by omega), if_neg (Ne.symm hab), List.drop_zero, List.take_of_length_le (by omega)]
  refine up_freeze b hb' nb ?_
  have hyf : ∀ id els, y.frz id els = y := fun id els => by cases y <;> first | (exfalso; simp [scV] at hy; done) | simp [V.frz]
  have hyn : y.nr := by cases y <;> first | (exfalso; simp [scV] at hy; done) | trivial
  refine up_soloS p t q (z := 2) (els := [.agg [.lst la, .lst lb]]) ?_ ⟨⟨trivial, trivial, trivial⟩, trivial⟩ ?_ hqt (by rw [lookU_frz, lookU_frz, hq, hyf, hyf]) hyn hk
  · rw [List.getElem?_set_ne (Ne.symm hpb), frzH_live b lb _ p _ ho']
    simp only [Ob.frz, frzL, V.frz]
    rw [if_pos trivial, if_pos (by omega), List.drop_zero, List.take_of_length_le (by omega)]
  · rw [lookU_frz, lookU_frz, ht]
    simp [V.frz, hpa, hpb]
end
end Go.Proofs.YtmjglpdfkkmcoaaDoor

/-! The document's total machine of a machine, walked. No conditions. -/
namespace Go.Proofs.YtmjglpdfkkmcoaaDoor
open Go.RowKit

def deadS (n : Nat) (x : Int) : Int := if x < 0 then n else x
def totT (T : List (List Int)) : List (List Int) := T.map (fun r => r.map (deadS T.length)) ++ [List.replicate 8 (T.length : Int)]
def totF (F : List Bool) : List Bool := F ++ [false]
def totV (T : List (List Int)) (F : List Bool) : V := .agg [.lst (T.map ints), .lst (F.map V.bool)]
theorem nr_i64s : ∀ L : List Int, nrL (L.map (V.int .i64))
  | [] => trivial
  | x :: L => ⟨trivial, nr_i64s L⟩
theorem nr_rows : ∀ N : List (List Int), nrL (N.map ints)
  | [] => trivial
  | r :: N => ⟨trivial, nr_rows N⟩
theorem frzL_join (id : Nat) (els : List V) : ∀ a b : List V, frzL id els (a ++ b) = frzL id els a ++ frzL id els b
  | [], b => by simp [frzL]
  | x :: a, b => by simp [frzL, frzL_join id els a b]
theorem killL_join (id : Nat) : ∀ a b : List V, killL id (a ++ b) = killL id a ++ killL id b
  | [], b => by simp [killL]
  | x :: a, b => by simp [killL, killL_join id a b]
theorem cells_i64 (l : List Int) : ∀ y, y ∈ l.map (V.int .i64) → y.cells.length = 1 := fun y hy => by
  obtain ⟨x, _, rfl⟩ := List.mem_map.1 hy
  rfl
theorem cells_bool (l : List Bool) : ∀ y, y ∈ l.map V.bool → y.cells.length = 1 := fun y hy => by
  obtain ⟨x, _, rfl⟩ := List.mem_map.1 hy
  rfl
theorem frz_round (i j : Nat) (hi : i ≠ 3) (X : List Int) (R : List (List Int)) : killL j (frzL 3 (X.map (V.int .i64)) (killL i (List.take R.length (List.drop 0 (R.map ints)) ++ List.take 1 (List.drop 0 [V.sl 3 0 X.length])))) = (R ++ [X]).map ints := by
  have e : killL i (List.take R.length (List.drop 0 (R.map ints)) ++ List.take 1 (List.drop 0 [V.sl 3 0 X.length])) = R.map ints ++ [V.sl 3 0 X.length] := by
    rw [List.drop_zero, List.take_of_length_le (by simp), killL_join, kill_nrL _ (nr_rows R)]
    show _ ++ killL i [V.sl 3 0 X.length] = _
    simp [killL, V.kill, Ne.symm hi]
  have e2 : frzL 3 (X.map (V.int .i64)) [V.sl 3 0 X.length] = [ints X] := by
    simp [frzL, V.frz, ints]
    rw [List.take_of_length_le (by simp)]
  rw [e, frzL_join, frz_nrL _ _ (nr_rows R), e2, show R.map ints ++ [ints X] = (R ++ [X]).map ints by rw [List.map_append]; rfl, kill_nrL _ (nr_rows _)]
theorem len_round (X : List Int) (R : List (List Int)) : R.length + (List.take 1 (List.drop 0 [V.sl 3 0 X.length])).length = (R ++ [X]).length := by
  rw [List.length_append]
  rfl
theorem frz_last (i j : Nat) (hi : i ≠ 3) (hj : j ≠ 3) (X : List Int) (R : List (List Int)) : frzL 3 (X.map (V.int .i64)) (killL j (killL i (List.take R.length (List.drop 0 (R.map ints)) ++ List.take 1 (List.drop 0 [V.sl 3 0 X.length])))) = (R ++ [X]).map ints := by
  have e : killL j (killL i (List.take R.length (List.drop 0 (R.map ints)) ++ List.take 1 (List.drop 0 [V.sl 3 0 X.length]))) = R.map ints ++ [V.sl 3 0 X.length] := by
    rw [List.drop_zero, List.take_of_length_le (by simp), killL_join, kill_nrL _ (nr_rows R), killL_join, kill_nrL _ (nr_rows R)]
    show _ ++ killL j (killL i [V.sl 3 0 X.length]) = _
    simp [killL, V.kill, Ne.symm hi, Ne.symm hj]
  have e2 : frzL 3 (X.map (V.int .i64)) [V.sl 3 0 X.length] = [ints X] := by
    simp [frzL, V.frz, ints]
    rw [List.take_of_length_le (by simp)]
  rw [e, frzL_join, frz_nrL _ _ (nr_rows R), e2, List.map_append]
  rfl
theorem nr_boo : ∀ L : List Bool, nrL (L.map V.bool)
  | [] => trivial
  | _ :: L => ⟨trivial, nr_boo L⟩
theorem frz_finals (els : List V) (F : List Bool) : frzL 3 els (killL 5 (List.take (F.map V.bool).length (List.drop 0 (F.map V.bool)) ++ List.take 1 (List.drop 0 [V.bool false]))) = (F ++ [false]).map V.bool := by
  rw [List.drop_zero, List.take_of_length_le (by simp)]
  show frzL 3 els (killL 5 (F.map V.bool ++ [false].map V.bool)) = _
  rw [← List.map_append, kill_nrL _ (nr_boo _), frz_nrL _ _ (nr_boo _)]
set_option maxHeartbeats 8000000 in
theorem total_of {T : List (List Int)} {F : List Bool} (h : mayOk T F = true) : Fn1 Tryd.prog 28 [autoV T F] (fun r => r = totV (totT T) (totF F)) := by
  obtain ⟨h1, h40, hF, hr⟩ := may_parts h
  have hTm : (T.map ints).length = T.length := by simp
  have hFm : (F.map V.bool).length = F.length := by simp
  unfold autoV
  refine fn1E (T := Tryd.tt) Tryd.func28 rfl tt_all follows_all ?_ ?_ fun C hC hE => ?_
  · kernel_rfl
  · exact Nat.le_of_ble_eq_true (by kernel_rfl)
  conv => whnf
  repeat' (first | (refine brd_t (by first | assumption | omega) ?_; conv => whnf) | (refine brd_f (by first | assumption | omega) ?_; conv => whnf) | (refine ask (by first | assumption | omega) ?_; conv => whnf) | (refine fit64 (by omega) ?_; conv => whnf) | (refine fit (by simp only [kmin, kmax]; omega) ?_; conv => whnf) | (refine br_t (by assumption) ?_; conv => whnf) | (refine br_f (by assumption) ?_; conv => whnf) | (refine get_of (by assumption) ?_; conv => whnf) | (refine get_map (by assumption) ?_; conv => whnf) | (refine draw_lex hE ?_ ?_; decide +kernel; conv => whnf) | (refine brd (fun h => ?_) (fun h => ?_) <;> conv => whnf) | (refine br (fun h => ?_) (fun h => ?_) <;> conv => whnf) | (refine ret_now hE ?_; conv => whnf) | (intro hlen; conv => whnf) | (refine seg_here ?_; conv => whnf) | (refine both ?_ ?_ <;> conv => whnf))
  refine loopE (fun ((k, R) : Nat × List (List Int)) => ⟨66, [(1, .rp [.lst (T.map ints), .lst (F.map V.bool)]), (2, .ptr 1 0 0), (3, .ptr 2 0 0), (4, .int .i64 (T.map ints).length), (13, .lst (T.map ints)), (14, .int .i64 (T.map ints).length), (15, .int .i64 k)],
      [some (.row 1 (R.map ints)), some (.row 2 [.agg [.nils, .nils]]), some (.row 2 [.agg [.sl 0 0 R.length, .nils]])]⟩)
    (fun (k, R) => k ≤ T.length ∧ R = (T.take k).map (fun r => r.map (deadS T.length))) (fun (k, _) => T.length - k) (0, []) hE ?_ ?_ ⟨Nat.zero_le _, rfl⟩ ?_
  · kernel_rfl
  · refine up_freeze 0 (z := 2) (els := [autoV T F]) rfl ⟨⟨trivial, trivial, trivial⟩, trivial⟩ (up_ownF 2 0 1 rfl rfl (at_keep [1, 2, 3, 4, 13, 14, 15] ?_))
    conv => whnf
    rfl
  rintro ⟨k, R⟩ ⟨hk, hR⟩
  have hRl : R.length = k := by rw [hR]; simp; omega
  have hRm : (R.map ints).length = R.length := by simp
  by_cases hlt : k < T.length
  · obtain ⟨row, hrow⟩ : ∃ x, T[k]? = some x := ⟨_, List.getElem?_eq_getElem hlt⟩
    obtain ⟨h8, _⟩ := hr row (List.mem_of_getElem? hrow)
    have hrm : (row.map (V.int .i64)).length = row.length := by simp
    conv => whnf
    repeat' (first | (refine brd_t (by first | assumption | omega) ?_; conv => whnf) | (refine brd_f (by first | assumption | omega) ?_; conv => whnf) | (refine ask (by first | assumption | omega) ?_; conv => whnf) | (refine fit64 (by omega) ?_; conv => whnf) | (refine fit (by simp only [kmin, kmax]; omega) ?_; conv => whnf) | (refine br_t (by assumption) ?_; conv => whnf) | (refine br_f (by assumption) ?_; conv => whnf) | (refine get_of (by assumption) ?_; conv => whnf) | (refine get_map (by assumption) ?_; conv => whnf) | (refine ⟨cells_i64 row, ?_⟩; conv => whnf) | (refine draw_lex hE ?_ ?_; decide +kernel; conv => whnf) | (refine brd (fun h => ?_) (fun h => ?_) <;> conv => whnf) | (refine br (fun h => ?_) (fun h => ?_) <;> conv => whnf) | (refine ret_now hE ?_; conv => whnf) | (intro hlen; conv => whnf) | (refine seg_here ?_; conv => whnf) | (refine both ?_ ?_ <;> conv => whnf))
    refine loopE (fun ((c, X) : Nat × List Int) => ⟨66, [(1, .rp [.lst (T.map ints), .lst (F.map V.bool)]), (2, .ptr 1 0 0), (3, .ptr 2 0 0), (4, .int .i64 (T.map ints).length), (7, .sl 3 0 X.length), (13, .lst (T.map ints)), (14, .int .i64 (T.map ints).length), (15, .int .i64 k), (22, .int .i64 X.length), (23, .int .i64 c)],
        [some (.row 1 (R.map ints)), some (.row 2 [.agg [.nils, .nils]]), some (.row 2 [.agg [.sl 0 0 R.length, .nils]]), some (.row 1 (X.map (V.int .i64)))]⟩)
      (fun (c, X) => c ≤ 8 ∧ X.length = 8 ∧ X = (row.take c).map (deadS T.length) ++ row.drop c) (fun (c, _) => 8 - c) (0, row) hE ?_ ?_ ⟨Nat.zero_le _, h8, rfl⟩ ?_
    · kernel_rfl
    · refine at_keep [1, 2, 3, 4, 7, 13, 14, 15, 22, 23] ?_
      conv => whnf
      rw [hrm]
      rfl
    rintro ⟨c, X⟩ ⟨hc, hX8, hX⟩
    have hXm : (X.map (V.int .i64)).length = X.length := by simp
    by_cases hc8 : c < 8
    · obtain ⟨x, hx⟩ : ∃ x, row[c]? = some x := ⟨_, List.getElem?_eq_getElem (by omega)⟩
      have hXc : X[c]? = some x := by rw [hX, List.getElem?_append_right (by simp; omega)]; simp; rw [Nat.min_eq_left (by omega)]; simpa using hx
      have hnx : X.set c (deadS T.length x) = (row.take (c + 1)).map (deadS T.length) ++ row.drop (c + 1) := by
        rw [hX, List.set_append_right _ _ (by simp; omega), List.take_add_one, hx, List.map_append, List.append_assoc, List.drop_eq_getElem_cons (show c < row.length by omega)]
        have : row[c] = x := by rw [List.getElem?_eq_getElem (by omega)] at hx; simpa using hx
        simp [Nat.min_eq_left (show c ≤ row.length by omega), this]
      have hXX : (X.map (V.int .i64))[0 + Int.toNat (c : Int)]? = some (.int .i64 x) := by rw [Nat.zero_add, Int.toNat_natCast, List.getElem?_map, hXc]; rfl
      by_cases hx0 : x < 0
      · have e : deadS T.length x = T.length := by simp [deadS, hx0]
        conv => whnf
        repeat' (first | (refine brd_t (by first | assumption | omega) ?_; conv => whnf) | (refine brd_f (by first | assumption | omega) ?_; conv => whnf) | (refine ask (by first | assumption | omega) ?_; conv => whnf) | (refine fit64 (by omega) ?_; conv => whnf) | (refine fit (by simp only [kmin, kmax]; omega) ?_; conv => whnf) | (refine br_t (by assumption) ?_; conv => whnf) | (refine br_f (by assumption) ?_; conv => whnf) | (refine get_of (by assumption) ?_; conv => whnf) | (refine get_map (by assumption) ?_; conv => whnf) | (refine get_of hXX ?_; conv => whnf) | (refine draw_lex hE ?_ ?_; decide +kernel; conv => whnf) | (refine brd (fun h => ?_) (fun h => ?_) <;> conv => whnf) | (refine br (fun h => ?_) (fun h => ?_) <;> conv => whnf) | (refine ret_now hE ?_; conv => whnf) | (intro hlen; conv => whnf) | (refine seg_here ?_; conv => whnf) | (refine both ?_ ?_ <;> conv => whnf))
        refine next_keep [1, 2, 3, 4, 7, 13, 14, 15, 22, 23] (c + 1, X.set c (deadS T.length x)) ⟨by omega, by simp [hX8], hnx⟩ (by show 8 - (c + 1) < 8 - c; omega) ?_
        conv => whnf
        rw [Nat.zero_add, Int.toNat_natCast, hTm, ← hXm, ← List.map_set, ← e]
        have hl2 : (X.map (V.int .i64)).length = (X.set c (deadS T.length x)).length := by simp
        rw [hl2, e, hTm.symm]
        rfl
      · have e : deadS T.length x = x := by simp [deadS, hx0]
        have hs : X.set c x = X := by
          apply List.ext_getElem?
          intro j
          rw [List.getElem?_set]
          split
          · rename_i e; subst e; rw [if_pos (by omega), hXc]
          · rfl
        rw [e, hs] at hnx
        conv => whnf
        repeat' (first | (refine brd_t (by first | assumption | omega) ?_; conv => whnf) | (refine brd_f (by first | assumption | omega) ?_; conv => whnf) | (refine ask (by first | assumption | omega) ?_; conv => whnf) | (refine fit64 (by omega) ?_; conv => whnf) | (refine fit (by simp only [kmin, kmax]; omega) ?_; conv => whnf) | (refine br_t (by assumption) ?_; conv => whnf) | (refine br_f (by assumption) ?_; conv => whnf) | (refine get_of (by assumption) ?_; conv => whnf) | (refine get_map (by assumption) ?_; conv => whnf) | (refine get_of hXX ?_; conv => whnf) | (refine draw_lex hE ?_ ?_; decide +kernel; conv => whnf) | (refine brd (fun h => ?_) (fun h => ?_) <;> conv => whnf) | (refine br (fun h => ?_) (fun h => ?_) <;> conv => whnf) | (refine ret_now hE ?_; conv => whnf) | (intro hlen; conv => whnf) | (refine seg_here ?_; conv => whnf) | (refine both ?_ ?_ <;> conv => whnf))
        refine next_keep [1, 2, 3, 4, 7, 13, 14, 15, 22, 23] (c + 1, X) ⟨by omega, hX8, hnx⟩ (by show 8 - (c + 1) < 8 - c; omega) ?_
        conv => whnf
        rfl
    · conv => whnf
      repeat' (first | (refine brd_t (by first | assumption | omega) ?_; conv => whnf) | (refine brd_f (by first | assumption | omega) ?_; conv => whnf) | (refine ask (by first | assumption | omega) ?_; conv => whnf) | (refine fit64 (by omega) ?_; conv => whnf) | (refine fit (by simp only [kmin, kmax]; omega) ?_; conv => whnf) | (refine br_t (by assumption) ?_; conv => whnf) | (refine br_f (by assumption) ?_; conv => whnf) | (refine get_of (by assumption) ?_; conv => whnf) | (refine get_map (by assumption) ?_; conv => whnf) | (refine ask (Nat.le_refl 1) ?_; conv => whnf) | (refine ask ⟨?_, ?_, ?_⟩ ?_; (simp <;> omega); (show _ + 1 ≤ 9223372036854775807; omega); (show (_ + 1) * _ ≤ 140737488355328; omega); conv => whnf) | (refine draw_lex hE ?_ ?_; decide +kernel; conv => whnf) | (refine brd (fun h => ?_) (fun h => ?_) <;> conv => whnf) | (refine br (fun h => ?_) (fun h => ?_) <;> conv => whnf) | (refine ret_now hE ?_; conv => whnf) | (intro hlen; conv => whnf) | (refine seg_here ?_; conv => whnf) | (refine both ?_ ?_ <;> conv => whnf))
      have hXe : X = row.map (deadS T.length) := by rw [hX, show c = 8 by omega, List.take_of_length_le (by omega), List.drop_eq_nil_of_le (by omega), List.append_nil]
      refine up_freeze 3 (z := 1) (els := X.map (V.int .i64)) (congrArg (fun l => some (some (Ob.row 1 l))) (kill_nrL 0 (nr_i64s X))) (nr_i64s X) (next_drop [1, 2, 3, 4, 13, 14, 15] [4] (k + 1, R ++ [X]) ⟨by omega, ?_⟩ ?_ ?_)
      · rw [hR, hXe, List.take_add_one, hrow, List.map_append]
        rfl
      · show T.length - (k + 1) < T.length - k
        omega
      conv => whnf
      rw [len_round, frz_round 0 4 (by decide)]
      rfl
  · conv => whnf
    repeat' (first | (refine brd_t (by first | assumption | omega) ?_; conv => whnf) | (refine brd_f (by first | assumption | omega) ?_; conv => whnf) | (refine ask (by first | assumption | omega) ?_; conv => whnf) | (refine fit64 (by omega) ?_; conv => whnf) | (refine fit (by simp only [kmin, kmax]; omega) ?_; conv => whnf) | (refine br_t (by assumption) ?_; conv => whnf) | (refine br_f (by assumption) ?_; conv => whnf) | (refine get_of (by assumption) ?_; conv => whnf) | (refine get_map (by assumption) ?_; conv => whnf) | (refine ⟨cells_bool F, ?_⟩; conv => whnf) | (refine ret_up (up_freeze 3 (z := 1) (els := List.replicate 8 (.int .i64 (T.map ints).length)) rfl ⟨trivial, trivial, trivial, trivial, trivial, trivial, trivial, trivial, trivial⟩ (up_cell2 1 2 0 5 (za := 1) (zb := 1) (la := (totT T).map ints) (lb := (totF F).map V.bool) rfl rfl ?_ ?_ (by decide) (by decide) (by decide) (nr_rows _) (nr_boo _) ?_ ?_ (up_here ?_)))) | (refine ask (Nat.le_refl 1) ?_; conv => whnf) | (refine ask ⟨?_, ?_, ?_⟩ ?_; (simp <;> omega); (show _ + 1 ≤ 9223372036854775807; omega); (show (_ + 1) * _ ≤ 140737488355328; omega); conv => whnf) | (refine draw_lex hE ?_ ?_; decide +kernel; conv => whnf) | (refine brd (fun h => ?_) (fun h => ?_) <;> conv => whnf) | (refine br (fun h => ?_) (fun h => ?_) <;> conv => whnf) | (refine ret_now hE ?_; conv => whnf) | (intro hlen; conv => whnf) | (refine seg_here ?_; conv => whnf) | (refine both ?_ ?_ <;> conv => whnf))
    all_goals have hRT : R = T.map (fun r => r.map (deadS T.length)) := by rw [hR, List.take_of_length_le (by omega)]
    all_goals have hTT : totT T = R ++ [List.replicate 8 (T.length : Int)] := by rw [hRT]; rfl
    · refine Eq.trans (b := some (some (Ob.row 1 (frzL 3 ((List.replicate 8 (T.length : Int)).map (V.int .i64)) (killL 5 (killL 0 (List.take R.length (List.drop 0 (R.map ints)) ++ List.take 1 (List.drop 0 [V.sl 3 0 (List.replicate 8 (T.length : Int)).length])))))))) (by rw [hTm]; rfl) ?_
      rw [frz_last 0 5 (by decide) (by decide), hTT]
    · exact congrArg (fun l => some (some (Ob.row 1 l))) (frz_finals _ F)
    · rw [hTT, List.length_map, List.length_append]
      rfl
    · unfold totF
      rw [List.length_map, List.length_map, List.length_append]
      rfl
    · exact ⟨rfl, rfl⟩
end Go.Proofs.YtmjglpdfkkmcoaaDoor

/-! Rows of rows of the call's own, any number of them: the heap's tail is a list of rows. No conditions. -/
namespace Go.Proofs.YtmjglpdfkkmcoaaDoor
open Go.RowKit

section
variable {C : Ctx} {K : ES → Prop}
theorem fH_go {h : List (Option Ob)} {K : List (Option Ob) → Prop} (hk : K h) : fH h K := by rw [fH_eq]; exact hk
/-- A spare place at the heap's end. -/
theorem up_long {n : Nat} {u : List (Nat × V)} {h : List (Option Ob)} (hk : UpE C K ⟨n, u, h ++ [none]⟩) : UpE C K ⟨n, u, h⟩ := by
  have key : ∀ (id : Nat) (o : Ob), (h ++ [none])[id]? = some (some o) ↔ h[id]? = some (some o) := fun id o => by
    rw [List.getElem?_append]
    split
    · exact Iff.rfl
    · rename_i hi
      constructor
      · intro e
        match hj : id - h.length with
        | 0 => rw [hj] at e; cases e
        | j + 1 => rw [hj] at e; simp at e
      · intro e
        exact absurd (List.getElem?_eq_some_iff.1 e).1 hi
  refine ⟨up_of_rel (fun a w hr => ?_) hk.out⟩
  obtain ⟨I, bl, hp⟩ := hr.parts
  refine RP.rel (I := I) (bl := bl) ⟨hp.defers, hp.env, ⟨fun id o ho => hp.heap.obj id o ((key id o).1 ho), fun id i hi => ?_, hp.heap.apart, hp.heap.own, hp.heap.imm, hp.heap.kept⟩⟩
  obtain ⟨o, ho⟩ := hp.heap.live id i hi
  exact ⟨o, (key id o).2 ho⟩
/-- A slice of a row, the row read as it will be. -/
theorem sl_pr {w : World} {I I' : Nat → Prop} {bl : Nat → Option BI} {v : Value} {id z : Nat} {els els' : List V} (ho : ObRep w I bl id (.row z els)) (hown : ∀ i b, bl id = some i → i.blk = some b → I' b) (hlen : els'.length = els.length)
    (hc : ∀ (i : Nat) (x x' : V), els[i]? = some x → els'[i]? = some x' → x'.cells.length = x.cells.length ∧ ∀ (j : Nat) (c c' : V) (u : Value), x.cells[j]? = some c → x'.cells[j]? = some c' → Rep w I bl u c → Pr w I' u c') (h : Rep w I bl v (.sl id 0 els.length)) : Pr w I' v (.lst els') := by
  rcases h.inv_sl with ⟨base, z', h1, _, h5, rfl⟩ | ⟨a', i', h1, h5, rfl⟩ | ⟨cap, b, base, z', n, e', h1, h2, h3, h4, h5, rfl⟩
  · rw [h5] at hlen
    obtain rfl : els' = [] := List.eq_nil_of_length_eq_zero hlen
    exact .lnil none 0
  · rw [h5] at hlen
    obtain rfl : els' = [] := List.eq_nil_of_length_eq_zero hlen
    exact .lnil _ 0
  · obtain ⟨bi, g1, g2, g3, g4⟩ := ho
    rw [h1] at g1
    simp only [Option.some.injEq] at g1
    subst g1
    simp only at g2 g4
    subst g2
    obtain ⟨cur, e2, hg, hsz, hcc⟩ := g4
    rw [← hlen]
    have hx : ∀ (i : Nat) (x' : V), els'[i]? = some x' → ∃ x, els[i]? = some x := fun i x' hi => ⟨_, List.getElem?_eq_getElem (by rw [← hlen]; exact (List.getElem?_eq_some_iff.1 hi).1)⟩
    refine .lst b (base + 0 * z') cap z' els' (fun i j => if i * z' + j < els.length * z' then (cur[base + i * z' + j]?).getD (.int .i64 0) else .int .i64 0) (hown _ _ h1 rfl) (by omega) h5 (fun i x' hi => ?_) (fun i j hi hj => ?_) (fun i j => ?_) (fun i x' j c' hi hj => ?_)
    · obtain ⟨x, hx⟩ := hx i x' hi
      rw [(hc i x x' hx hi).1]
      exact g3 i x hx
    · have hil : i < els.length := by omega
      have hm : (i + 1) * z' ≤ els.length * z' := Nat.mul_le_mul_right _ hil
      rw [Nat.add_mul, Nat.one_mul] at hm
      rw [hg.cell, if_pos (by omega), Nat.zero_mul, Nat.add_zero]
      have hlt : base + i * z' + j < cur.size := by omega
      rw [Array.getElem?_eq_getElem hlt]
      rfl
    · split
      · rename_i hij
        have hz : 0 < z' := by
          rcases Nat.eq_zero_or_pos z' with h0 | h0
          · subst h0; omega
          · exact h0
        have hq : (i * z' + j) / z' < els.length := (Nat.div_lt_iff_lt_mul hz).2 hij
        obtain ⟨x, hx⟩ : ∃ x, els[(i * z' + j) / z']? = some x := ⟨_, List.getElem?_eq_getElem hq⟩
        obtain ⟨c, hcx⟩ : ∃ c, x.cells[(i * z' + j) % z']? = some c := ⟨_, List.getElem?_eq_getElem (by rw [g3 _ x hx]; exact Nat.mod_lt _ hz)⟩
        obtain ⟨u, hu, hu1, _⟩ := hcc _ x _ c hx hcx
        have : base + (i * z' + j) / z' * z' + (i * z' + j) % z' = base + i * z' + j := by
          have := Nat.div_add_mod' (i * z' + j) z'
          omega
        rw [this] at hu
        rw [hu]
        exact hu1
      · rfl
    · obtain ⟨x, hxi⟩ := hx i x' hi
      obtain ⟨hl, hr⟩ := hc i x x' hxi hi
      have hj' : j < x.cells.length := by rw [← hl]; exact (List.getElem?_eq_some_iff.1 hj).1
      obtain ⟨c, hcx⟩ : ∃ c, x.cells[j]? = some c := ⟨_, List.getElem?_eq_getElem hj'⟩
      obtain ⟨u, hu, _, hur⟩ := hcc i x j c hxi hcx
      have hil : i < els.length := (List.getElem?_eq_some_iff.1 hxi).1
      have hm : (i + 1) * z' ≤ els.length * z' := Nat.mul_le_mul_right _ hil
      rw [Nat.add_mul, Nat.one_mul] at hm
      have hjz : j < z' := by rw [← g3 i x hxi]; exact hj'
      rw [if_pos (by omega), hu]
      exact hr j c c' u hcx hj hur
/-- Slices of the call's own rows from place p on, in their order. -/
def slsV (p m : Nat) (n : Nat) : List V := (List.range n).map fun j => V.sl (j + p) 0 m
/-- Rows of rows, the heap's tail: all is frozen. -/
theorem up_rows (t q : Nat) (pre : List (Option Ob)) {n m : Nat} {u : List (Nat × V)} (D : List (List V)) (hq : pre[q]? = some (some (.row 1 (slsV pre.length m D.length)))) (hD : ∀ r ∈ D, r.length = m ∧ nrL r ∧ ∀ x ∈ r, x.cells.length = 1)
    (ht : lookU u t = .sl q 0 D.length) (hk : UpE C K ⟨n, [(t, .lst (D.map V.lst))], []⟩) : UpE C K ⟨n, u, pre ++ D.map fun r => some (.row 1 r)⟩ := by
  refine up_to' [t] ?_
  refine ⟨up_of_rel (fun a w hr => ?_) hk.out⟩
  obtain ⟨I, bl, hp⟩ := hr.parts
  let I' : Nat → Prop := fun b => I b ∨ ∃ id i, bl id = some i ∧ i.blk = some b
  have hown : ∀ id i b, bl id = some i → i.blk = some b → I' b := fun id i b h1 h2 => .inr ⟨id, i, h1, h2⟩
  have hpq : ((pre ++ D.map fun r => some (Ob.row 1 r)) : List (Option Ob))[q]? = some (some (.row 1 (slsV pre.length m D.length))) := by
    rw [List.getElem?_append_left (List.getElem?_eq_some_iff.1 hq).1]; exact hq
  have hin : ∀ (j : Nat) (r : List V) (v : Value), D[j]? = some r → Rep w I bl v (.sl (j + pre.length) 0 m) → Pr w I' v (.lst r) := by
    intro j r v hj hv
    obtain ⟨hm, hnr, hc1⟩ := hD r (List.mem_of_getElem? hj)
    have hob : ((pre ++ D.map fun r => some (Ob.row 1 r)) : List (Option Ob))[j + pre.length]? = some (some (.row 1 r)) := by
      rw [List.getElem?_append_right (by omega), Nat.add_sub_cancel, List.getElem?_map, hj]; rfl
    rw [← hm] at hv
    refine sl_pr (hp.heap.obj _ _ hob) (fun i b h1 h2 => hown _ i b h1 h2) rfl (fun i x x' h1 h2 => ?_) hv
    rw [h1] at h2
    cases h2
    refine ⟨rfl, fun j c c' u h3 h4 hu => ?_⟩
    rw [h3] at h4
    cases h4
    exact (hu.pr (nr_cells (nrL_get r i x hnr h1) j c h3)).later (fun _ _ => rfl) (fun b h => .inl h)
  refine RP.rel (I := I') (bl := fun _ => none) ⟨hp.defers, ⟨by have := hp.env.1; simpa [ES.st, ES.env] using this, fun i v x hv hx => ?_⟩, ⟨?_, ?_, ?_, ?_, ?_, hp.heap.kept⟩⟩
  · have hx' : (ES.env ⟨n, keepU [t] u, pre ++ D.map fun r => some (.row 1 r)⟩)[i]? = some (if i = t then .sl q 0 D.length else .any) ∧ x = if i = t then .lst (D.map V.lst) else .any := by
      have hx : (ES.env ⟨n, [(t, .lst (D.map V.lst))], []⟩)[i]? = some x := hx
      unfold ES.env at hx ⊢
      rw [List.getElem?_map, Option.map_eq_some_iff] at hx
      obtain ⟨s, hs, rfl⟩ := hx
      rw [List.getElem?_map, hs]
      have hsi : s = i := by
        have := (List.getElem?_eq_some_iff.1 hs)
        simpa using this.2.symm
      subst hsi
      have e : keepU [t] u = [(t, .sl q 0 D.length)] := by simp [keepU, ht]
      rw [e]
      by_cases est : s = t
      · subst est
        simp [lookU]
      · have hb : Nat.beq s t = false := by cases hb : Nat.beq s t with
          | false => rfl
          | true => exact absurd (Nat.eq_of_beq_eq_true hb) est
        simp [lookU, hb, est]
    obtain ⟨h1, rfl⟩ := hx'
    have hrep := hp.env.2 i v _ hv h1
    split
    · rename_i e
      rw [if_pos e] at hrep
      have hl : (slsV pre.length m D.length).length = D.length := by simp [slsV]
      refine .pure _ _ (sl_pr (els := slsV pre.length m D.length) (hp.heap.obj _ _ hpq) (fun i b h1 h2 => hown _ i b h1 h2) (by simp [hl]) (fun j x x' g1 g2 => ?_) (by rw [hl]; exact hrep))
      obtain ⟨r, hr1⟩ : ∃ r, D[j]? = some r := ⟨_, List.getElem?_eq_getElem (by have := (List.getElem?_eq_some_iff.1 g1).1; omega)⟩
      rw [List.getElem?_map, hr1] at g2
      cases g2
      have : x = .sl (j + pre.length) 0 m := by
        unfold slsV at g1
        rw [List.getElem?_map, List.getElem?_range (by have := (List.getElem?_eq_some_iff.1 hr1).1; exact this)] at g1
        simpa using g1.symm
      subst this
      refine ⟨rfl, fun k c c' u g3 g4 hu => ?_⟩
      match k with
      | 0 =>
        simp only [V.cells, List.getElem?_cons_zero, Option.some.injEq] at g3 g4
        subst g3; subst g4
        exact hin j r u hr1 hu
      | k + 1 => simp [V.cells] at g3
    · exact .pure _ _ (.any _)
  · intro id o ho; simp [ES.st] at ho
  · intro id i hi; cases hi
  · intro id id' i i' b hi; cases hi
  · intro id i b hi; cases hi
  · intro k hk
    rcases hk with hk | ⟨id, i, h1, h2⟩
    · exact hp.heap.imm k hk
    · obtain ⟨h3, _, h5⟩ := hp.heap.own id i k h1 h2
      exact ⟨h3, .inr h5⟩
theorem up_rowsE (t q : Nat) (pre : List (Option Ob)) {n m : Nat} {u : List (Nat × V)} {h : List (Option Ob)} (D : List (List V)) (he : h = pre ++ D.map fun r => some (.row 1 r)) (hq : pre[q]? = some (some (.row 1 (slsV pre.length m D.length)))) (hD : ∀ r ∈ D, r.length = m ∧ nrL r ∧ ∀ x ∈ r, x.cells.length = 1)
    (ht : lookU u t = .sl q 0 D.length) (hk : UpE C K ⟨n, [(t, .lst (D.map V.lst))], []⟩) : UpE C K ⟨n, u, h⟩ := by
  subst he
  exact up_rows t q pre D hq hD ht hk
end
end Go.Proofs.YtmjglpdfkkmcoaaDoor

/-! The table of the states that are told apart: the plain law of its filling. No conditions. -/
namespace Go.Proofs.YtmjglpdfkkmcoaaDoor

def at2 (D : List (List Bool)) (i k : Nat) : Bool := ((D[i]?.getD [])[k]?).getD false
def nxT (T : List (List Int)) (i c : Nat) : Nat := (((T[i]?.getD [])[c]?).getD 0).toNat
def fnF (F : List Bool) (i : Nat) : Bool := (F[i]?).getD false
structure Sq (n : Nat) (D : List (List Bool)) : Prop where
  len : D.length = n
  row : ∀ r ∈ D, r.length = n
def set2 (D : List (List Bool)) (i k : Nat) : List (List Bool) := D.set i ((D[i]?.getD []).set k true)
def cnt (D : List (List Bool)) : Nat := (D.map fun r => r.countP fun b => !b).sum
theorem Sq.get {n : Nat} {D : List (List Bool)} (h : Sq n D) {i : Nat} (hi : i < n) : ∃ r, D[i]? = some r ∧ r.length = n := by
  obtain ⟨r, hr⟩ : ∃ r, D[i]? = some r := ⟨_, List.getElem?_eq_getElem (by rw [h.len]; exact hi)⟩
  exact ⟨r, hr, h.row r (List.mem_of_getElem? hr)⟩
theorem Sq.get2 {n : Nat} {D : List (List Bool)} (h : Sq n D) {i k : Nat} (hi : i < n) (hk : k < n) : ∃ r, D[i]? = some r ∧ r.length = n ∧ r[k]? = some (at2 D i k) := by
  obtain ⟨r, hr, hl⟩ := h.get hi
  obtain ⟨b, hb⟩ : ∃ b, r[k]? = some b := ⟨_, List.getElem?_eq_getElem (by rw [hl]; exact hk)⟩
  exact ⟨r, hr, hl, by simp [at2, hr, hb]⟩
theorem sq_set2 {n : Nat} {D : List (List Bool)} (h : Sq n D) {i k : Nat} (hi : i < n) : Sq n (set2 D i k) := by
  obtain ⟨r, hr, hl⟩ := h.get hi
  refine ⟨by simp [set2, h.len], fun q hq => ?_⟩
  unfold set2 at hq
  rw [hr] at hq
  rcases List.mem_or_eq_of_mem_set hq with hq | rfl
  · exact h.row q hq
  · simp [hl]
theorem at2_set2 {n : Nat} {D : List (List Bool)} (h : Sq n D) {i k : Nat} (hi : i < n) (hk : k < n) (i' k' : Nat) : at2 (set2 D i k) i' k' = if i' = i ∧ k' = k then true else at2 D i' k' := by
  obtain ⟨r, hr, hl⟩ := h.get hi
  unfold at2 set2
  rw [hr, List.getElem?_set]
  by_cases e : i = i'
  · subst e
    simp only [if_true, if_pos (show i < D.length by rw [h.len]; exact hi), Option.getD_some, true_and, hr]
    rw [List.getElem?_set]
    by_cases e2 : k = k'
    · subst e2
      simp [hl, hk]
    · rw [if_neg e2, if_neg (Ne.symm e2)]
  · rw [if_neg e, if_neg (fun c => e c.1.symm)]
theorem sum_set (l : List Nat) (i x y : Nat) (h : l[i]? = some y) : (l.set i x).sum + y = l.sum + x := by
  induction l generalizing i with
  | nil => simp at h
  | cons a l ih =>
    cases i with
    | zero => simp at h; subst h; simp; omega
    | succ i => simp at h ⊢; have := ih i h; omega
theorem count_set (r : List Bool) (k : Nat) (h : r[k]? = some false) : ((r.set k true).countP fun b => !b) + 1 = r.countP fun b => !b := by
  induction r generalizing k with
  | nil => simp at h
  | cons a r ih =>
    cases k with
    | zero => simp at h; subst h; simp
    | succ k => simp at h; have := ih k h; simp [List.countP_cons]; omega
theorem cnt_set2 {n : Nat} {D : List (List Bool)} (h : Sq n D) {i k : Nat} (hi : i < n) (hk : k < n) (hf : at2 D i k = false) : cnt (set2 D i k) < cnt D := by
  obtain ⟨r, hr, hl, hb⟩ := h.get2 hi hk
  rw [hf] at hb
  have h1 := count_set r k hb
  have h2 := sum_set (D.map fun r => r.countP fun b => !b) i ((r.set k true).countP fun b => !b) (r.countP fun b => !b) (by rw [List.getElem?_map, hr]; rfl)
  unfold cnt set2
  rw [hr, List.map_set]
  simp only [Option.getD_some]
  omega
/-- What the table is, at any time: nothing is told apart wrongly; ends and others are. -/
structure Snd (T : List (List Int)) (F : List Bool) (n : Nat) (D : List (List Bool)) : Prop where
  sq : Sq n D
  sound : ∀ i k, i < n → k < n → at2 D i k = true → ∃ w, wordOk w ∧ fnF F (w.foldl (nxT T) i) ≠ fnF F (w.foldl (nxT T) k)
  base : ∀ i k, i < n → k < n → fnF F i ≠ fnF F k → at2 D i k = true
theorem snd_set2 {T : List (List Int)} {F : List Bool} {n : Nat} {D : List (List Bool)} (h : Snd T F n D) (hnx : ∀ i c, i < n → c < 8 → nxT T i c < n) {i k c : Nat} (hi : i < n) (hk : k < n) (hc : c < 8) (hd : at2 D (nxT T i c) (nxT T k c) = true) : Snd T F n (set2 D i k) where
  sq := sq_set2 h.sq hi
  sound := fun i' k' hi' hk' e => by
    rw [at2_set2 h.sq hi hk] at e
    split at e
    · rename_i hh
      obtain ⟨rfl, rfl⟩ := hh
      obtain ⟨w, hw, hne⟩ := h.sound _ _ (hnx i' c hi hc) (hnx k' c hk hc) hd
      exact ⟨c :: w, fun d hd => by rcases List.mem_cons.1 hd with rfl | hd; exact hc; exact hw d hd, hne⟩
    · exact h.sound i' k' hi' hk' e
  base := fun i' k' hi' hk' e => by
    rw [at2_set2 h.sq hi hk]
    split
    · rfl
    · exact h.base i' k' hi' hk' e
/-- In a round over the table D0: so far. -/
structure RInv (T : List (List Int)) (F : List Bool) (n : Nat) (D0 D : List (List Bool)) (more : Bool) (i k c : Nat) : Prop where
  snd : Snd T F n D
  so : (more = false ∧ D = D0 ∧ ∀ i' k' c', i' < n → k' < n → c' < 8 → (i' < i ∨ (i' = i ∧ (k' < k ∨ (k' = k ∧ c' < c)))) → at2 D (nxT T i' c') (nxT T k' c') = true → at2 D i' k' = true) ∨ (more = true ∧ cnt D < cnt D0)
section
variable {T : List (List Int)} {F : List Bool} {n : Nat} {D0 D : List (List Bool)} {more : Bool} {i k c : Nat}
theorem RInv.start (h : Snd T F n D) : RInv T F n D D false 0 0 0 := ⟨h, .inl ⟨rfl, rfl, fun i' k' c' _ _ _ h => by omega⟩⟩
theorem RInv.pass (h : RInv T F n D0 D more i k c) (hf : at2 D (nxT T i c) (nxT T k c) = false) : RInv T F n D0 D more i k (c + 1) := ⟨h.snd, h.so.imp (fun ⟨h1, h2, h3⟩ => ⟨h1, h2, fun i' k' c' a b d e f => by
  by_cases hh : i' = i ∧ k' = k ∧ c' = c
  · obtain ⟨rfl, rfl, rfl⟩ := hh
    rw [hf] at f
    cases f
  · exact h3 i' k' c' a b d (by omega) f⟩) id⟩
theorem RInv.full (h : RInv T F n D0 D more i k c) (hc : 8 ≤ c) : RInv T F n D0 D more i (k + 1) 0 := ⟨h.snd, h.so.imp (fun ⟨h1, h2, h3⟩ => ⟨h1, h2, fun i' k' c' a b d e f => h3 i' k' c' a b d (by omega) f⟩) id⟩
theorem RInv.told (h : RInv T F n D0 D more i k c) (ht : at2 D i k = true) : RInv T F n D0 D more i (k + 1) 0 := ⟨h.snd, h.so.imp (fun ⟨h1, h2, h3⟩ => ⟨h1, h2, fun i' k' c' a b d e f => by
  by_cases hh : i' = i ∧ k' = k
  · obtain ⟨rfl, rfl⟩ := hh
    exact ht
  · exact h3 i' k' c' a b d (by omega) f⟩) id⟩
theorem RInv.row (h : RInv T F n D0 D more i k 0) (hk : n ≤ k) : RInv T F n D0 D more (i + 1) 0 0 := ⟨h.snd, h.so.imp (fun ⟨h1, h2, h3⟩ => ⟨h1, h2, fun i' k' c' a b d e f => h3 i' k' c' a b d (by omega) f⟩) id⟩
theorem RInv.put (h : RInv T F n D0 D more i k c) (hnx : ∀ i c, i < n → c < 8 → nxT T i c < n) (hi : i < n) (hk : k < n) (hc : c < 8) (hf : at2 D i k = false) (hd : at2 D (nxT T i c) (nxT T k c) = true) (c' : Nat) : RInv T F n D0 (set2 D i k) true i k c' :=
  ⟨snd_set2 h.snd hnx hi hk hc hd, .inr ⟨rfl, by
    have h1 := cnt_set2 h.snd.sq hi hk hf
    rcases h.so with ⟨_, rfl, _⟩ | ⟨_, h2⟩
    · exact h1
    · omega⟩⟩
theorem RInv.done (h : RInv T F n D0 D false i 0 0) (hi : n ≤ i) : Tab (nxT T) (fnF F) n (at2 D) := by
  rcases h.so with ⟨_, _, h3⟩ | ⟨h1, _⟩
  · exact ⟨h.snd.sound, h.snd.base, fun i' k' c' a b d f => h3 i' k' c' a b d (by omega) f⟩
  · cases h1
end
end Go.Proofs.YtmjglpdfkkmcoaaDoor

/-! The table of the states that are told apart, walked. No conditions. -/
namespace Go.Proofs.YtmjglpdfkkmcoaaDoor
open Go.RowKit

def rowO (r : List Bool) : Option Ob := some (.row 1 (r.map V.bool))
theorem mv_bools (a b : Nat) : ∀ L : List Bool, mvL a b (L.map V.bool) = L.map V.bool
  | [] => by simp [mvL]
  | x :: L => by simp [mvL, V.mv, mv_bools a b L]
theorem mvH_rows (a b : Nat) : ∀ D : List (List Bool), mvH a b (D.map rowO ++ [none]) = D.map rowO ++ [none]
  | [] => by simp [mvH]
  | r :: D => by
    rw [List.map_cons, List.cons_append]
    show mvH a b (some (.row 1 (r.map V.bool)) :: (D.map rowO ++ [none])) = some (.row 1 (r.map V.bool)) :: (D.map rowO ++ [none])
    rw [mvH]
    rw [mvH_rows a b D]
    simp only [Ob.mv, mv_bools]
theorem up_push {C : Ctx} {K : ES → Prop} {n : Nat} {u : List (Nat × V)} (X : List Bool) (R : List V) (D : List (List Bool))
    (hk : UpE C K ⟨n, mvU 0 (D.length + 2) u, none :: some (.row 1 (mvL 0 (D.length + 2) R)) :: (D ++ [X]).map rowO⟩) : UpE C K ⟨n, u, some (.row 1 (X.map V.bool)) :: some (.row 1 R) :: D.map rowO⟩ := by
  refine up_long (up_move 0 (D.length + 2) (by omega) (o := .row 1 (X.map V.bool)) rfl ?_ (up_eq hk ?_))
  · simp
  · congr 1
    unfold mvHeap
    have e : mvH 0 (D.length + 2) ((some (Ob.row 1 (X.map V.bool)) :: some (.row 1 R) :: D.map rowO) ++ [none]) = some (.row 1 (X.map V.bool)) :: some (.row 1 (mvL 0 (D.length + 2) R)) :: (D.map rowO ++ [none]) := by
      rw [List.cons_append, List.cons_append, mvH, mvH, mvH_rows]
      simp only [Ob.mv, mv_bools]
    rw [e]
    show none :: some (Ob.row 1 (mvL 0 (D.length + 2) R)) :: (D.map rowO ++ [none]).set D.length (some (.row 1 (X.map V.bool))) = _
    rw [List.set_append_right _ _ (by simp)]
    simp [rowO]
theorem slsV_len (p m n : Nat) : (slsV p m n).length = n := by simp [slsV]
theorem slsV_get {p m n j : Nat} (h : j < n) : (slsV p m n)[j]? = some (.sl (j + p) 0 m) := by
  unfold slsV
  rw [List.getElem?_map, List.getElem?_range h]
  rfl
theorem mv_push (m i k : Nat) (hi : i < k) : mvL 0 (i + 2) ((slsV 2 m i ++ List.replicate (k - i) V.nils).set i (.sl 0 0 m)) = slsV 2 m (i + 1) ++ List.replicate (k - (i + 1)) V.nils := by
  have h1 : ∀ l : List V, mvL 0 (i + 2) l = l.map (V.mv 0 (i + 2)) := fun l => by induction l with
    | nil => simp [mvL]
    | cons x l ih => simp [mvL, ih]
  rw [h1, List.set_append_right _ _ (by rw [slsV_len]; omega), slsV_len, Nat.sub_self]
  obtain ⟨j, hj⟩ : ∃ j, k - i = j + 1 := ⟨k - i - 1, by omega⟩
  rw [hj, List.replicate_succ, List.set_cons_zero, List.map_append, List.map_cons, List.map_replicate]
  have e1 : (slsV 2 m i).map (V.mv 0 (i + 2)) = slsV 2 m i := by
    unfold slsV
    rw [List.map_map]
    refine List.map_congr_left fun x hx => ?_
    simp [V.mv, mvI]
  rw [e1, show k - (i + 1) = j by omega]
  unfold slsV
  rw [List.range_succ, List.map_append]
  simp [V.mv, mvI]
theorem nr_nils : ∀ k : Nat, nrL (List.replicate k V.nils)
  | 0 => trivial
  | k + 1 => ⟨trivial, nr_nils k⟩
theorem rows_get {D : List (List Bool)} {i : Nat} {r : List Bool} (h : D[i]? = some r) : (D.map rowO)[i]? = some (some (.row 1 (r.map V.bool))) := by
  rw [List.getElem?_map, h]; rfl
theorem rows_set {D : List (List Bool)} {i k : Nat} {r : List Bool} (h : D[i]? = some r) : (D.map rowO).set i (some (.row 1 ((r.map V.bool).set k (.bool true)))) = (set2 D i k).map rowO := by
  unfold set2
  rw [h, List.map_set]
  simp only [Option.getD_some, rowO, List.map_set]
theorem sls_at {p m n j : Nat} (h : j < n) : (slsV p m n)[0 + Int.toNat (j : Int)]? = some (.sl (j + p) 0 m) := by
  rw [Nat.zero_add, Int.toNat_natCast, slsV_get h]
theorem nr_boolsD : ∀ L : List Bool, nrL (L.map V.bool)
  | [] => trivial
  | _ :: L => ⟨trivial, nr_boolsD L⟩
theorem bools_at {r : List Bool} {k : Nat} {b : Bool} (h : r[k]? = some b) : (r.map V.bool)[0 + Int.toNat (k : Int)]? = some (.bool b) := by
  rw [Nat.zero_add, Int.toNat_natCast, List.getElem?_map, h]; rfl
set_option maxHeartbeats 16000000 in
theorem distinct_walk {T : List (List Int)} {F : List Bool} {n : Nat} (hT : T.length = n) (hF : F.length = n) (hn : 1 ≤ n) (hn2 : n ≤ 1048576) (hr : ∀ r ∈ T, r.length = 8 ∧ ∀ x ∈ r, 0 ≤ x ∧ x < n) :
    Fn1 Tryd.prog 41 [totV T F] (fun r => ∃ D : List (List Bool), r = .lst ((D.map (fun r => r.map V.bool)).map V.lst) ∧ Sq n D ∧ Tab (nxT T) (fnF F) n (at2 D)) := by
  have hTm : (T.map ints).length = T.length := by simp
  have hFm : (F.map V.bool).length = F.length := by simp
  have hF0 : ∀ i, i < n → F[i]? = some (fnF F i) := fun i hi => by
    obtain ⟨b, hb⟩ : ∃ b, F[i]? = some b := ⟨_, List.getElem?_eq_getElem (by omega)⟩
    simp [fnF, hb]
  have hT0 : ∀ i c, i < n → c < 8 → ∃ (row : List Int) (x : Int), T[i]? = some row ∧ row.length = 8 ∧ row[c]? = some x ∧ 0 ≤ x ∧ x < n ∧ nxT T i c = x.toNat := fun i c hi hc => by
    obtain ⟨row, hrow⟩ : ∃ b, T[i]? = some b := ⟨_, List.getElem?_eq_getElem (by omega)⟩
    obtain ⟨h8, hx⟩ := hr row (List.mem_of_getElem? hrow)
    obtain ⟨x, hxc⟩ : ∃ b, row[c]? = some b := ⟨_, List.getElem?_eq_getElem (by omega)⟩
    obtain ⟨h1, h2⟩ := hx x (List.mem_of_getElem? hxc)
    exact ⟨row, x, hrow, h8, hxc, h1, h2, by simp [nxT, hrow, hxc]⟩
  have hnx : ∀ i c, i < n → c < 8 → nxT T i c < n := fun i c hi hc => by
    obtain ⟨_, x, _, _, _, h1, h2, e⟩ := hT0 i c hi hc
    rw [e]
    omega
  unfold totV
  refine fn1E (T := Tryd.tt) Tryd.func41 rfl tt_all follows_all ?_ ?_ fun C hC hE => ?_
  · kernel_rfl
  · exact Nat.le_of_ble_eq_true (by kernel_rfl)
  conv => whnf
  repeat' (first | (refine brd_t (by first | assumption | omega) ?_; conv => whnf) | (refine brd_f (by first | assumption | omega) ?_; conv => whnf) | (refine ask (by first | assumption | omega) ?_; conv => whnf) | (refine fit64 (by omega) ?_; conv => whnf) | (refine fit (by simp only [kmin, kmax]; omega) ?_; conv => whnf) | (refine br_t (by assumption) ?_; conv => whnf) | (refine br_f (by assumption) ?_; conv => whnf) | (refine get_of (by assumption) ?_; conv => whnf) | (refine get_map (by assumption) ?_; conv => whnf) | (refine draw_lex hE ?_ ?_; decide +kernel; conv => whnf) | (refine draw_any hE [⟨0, [(0, none), (1, none), (2, none), (3, none), (4, none), (5, none), (6, none), (7, none), (8, none), (9, none), (10, none), (11, none), (12, none), (13, none), (14, none), (15, none), (16, none)], some 17, [], [[]], []⟩] ?_ ?_; decide +kernel; conv => whnf) | (refine draw_any hE [⟨0, [(0, none), (1, none), (2, none), (3, none), (4, none), (5, none), (6, none), (7, none), (8, none), (9, none), (10, none), (11, none), (12, none), (13, none), (14, none), (15, none), (16, none), (17, none), (18, none), (19, none), (20, none)], none, [], [[]], []⟩] ?_ ?_; decide +kernel; conv => whnf) | (refine brd (fun h => ?_) (fun h => ?_) <;> conv => whnf) | (refine br (fun h => ?_) (fun h => ?_) <;> conv => whnf) | (refine ret_now hE ?_; conv => whnf) | (intro hlen; conv => whnf) | (refine seg_here ?_; conv => whnf) | (refine both ?_ ?_ <;> conv => whnf))
  refine loopE (fun ((i, D) : Nat × List (List Bool)) => ⟨108, [(1, .rp [.lst (T.map ints), .lst (F.map V.bool)]), (3, .int .i64 n), (4, .sl 1 0 n), (17, .int .i64 n), (18, .int .i64 i)], none :: some (.row 1 (slsV 2 n i ++ List.replicate (n - i) .nils)) :: D.map rowO⟩)
    (fun (i, D) => i ≤ n ∧ D.length = i ∧ ∀ (j : Nat) (r : List Bool), D[j]? = some r → r.length = n ∧ ∀ k, k < n → r[k]? = some (fnF F j != fnF F k)) (fun (i, _) => n - i) (0, []) hE ?_ ?_ ⟨Nat.zero_le _, rfl, fun j r h => by simp at h⟩ ?_
  · kernel_rfl
  · refine up_freeze 0 (z := 2) (els := [totV T F]) rfl ⟨⟨trivial, trivial, trivial⟩, trivial⟩ (at_keep [1, 3, 4, 17, 18] ?_)
    conv => whnf
    rw [hTm, hT, Int.toNat_natCast, frz_nrL _ _ (nr_nils n)]
    rfl
  rintro ⟨i, D⟩ ⟨hi, hD, hDr⟩
  have hrl : (slsV 2 n i ++ List.replicate (n - i) V.nils).length = n := by simp [slsV_len]; omega
  by_cases hlt : i < n
  · have hg1 : (slsV 2 n i ++ List.replicate (n - i) V.nils)[0 + Int.toNat (i : Int)]? = some .nils := by
      rw [Nat.zero_add, Int.toNat_natCast, List.getElem?_append_right (by rw [slsV_len]; omega), slsV_len, Nat.sub_self, List.getElem?_replicate, if_pos (by omega)]
    have hg2 : ((slsV 2 n i ++ List.replicate (n - i) V.nils).set (0 + Int.toNat (i : Int)) (.sl 0 0 (Int.toNat (n : Int))))[0 + Int.toNat (i : Int)]? = some (.sl 0 0 (Int.toNat (n : Int))) := by
      rw [List.getElem?_set_self (by rw [hrl, Nat.zero_add, Int.toNat_natCast]; exact hlt)]
    conv => whnf
    repeat' (first | (refine brd_t (by first | assumption | omega) ?_; conv => whnf) | (refine brd_f (by first | assumption | omega) ?_; conv => whnf) | (refine ask (by first | assumption | omega) ?_; conv => whnf) | (refine fit64 (by omega) ?_; conv => whnf) | (refine fit (by simp only [kmin, kmax]; omega) ?_; conv => whnf) | (refine br_t (by assumption) ?_; conv => whnf) | (refine br_f (by assumption) ?_; conv => whnf) | (refine get_of (by assumption) ?_; conv => whnf) | (refine get_map (by assumption) ?_; conv => whnf) | (refine fH_go ?_; conv => whnf) | (refine get_of hg1 ?_; conv => whnf) | (refine get_of hg2 ?_; conv => whnf) | (refine draw_lex hE ?_ ?_; decide +kernel; conv => whnf) | (refine draw_any hE [⟨0, [(0, none), (1, none), (2, none), (3, none), (4, none), (5, none), (6, none), (7, none), (8, none), (9, none), (10, none), (11, none), (12, none), (13, none), (14, none), (15, none), (16, none)], some 17, [], [[]], []⟩] ?_ ?_; decide +kernel; conv => whnf) | (refine draw_any hE [⟨0, [(0, none), (1, none), (2, none), (3, none), (4, none), (5, none), (6, none), (7, none), (8, none), (9, none), (10, none), (11, none), (12, none), (13, none), (14, none), (15, none), (16, none), (17, none), (18, none), (19, none), (20, none)], none, [], [[]], []⟩] ?_ ?_; decide +kernel; conv => whnf) | (refine brd (fun h => ?_) (fun h => ?_) <;> conv => whnf) | (refine br (fun h => ?_) (fun h => ?_) <;> conv => whnf) | (refine ret_now hE ?_; conv => whnf) | (intro hlen; conv => whnf) | (refine seg_here ?_; conv => whnf) | (refine both ?_ ?_ <;> conv => whnf))
    refine loopE (fun ((k, X) : Nat × List Bool) => ⟨108, [(1, .rp [.lst (T.map ints), .lst (F.map V.bool)]), (3, .int .i64 n), (4, .sl 1 0 n), (5, .int .i64 i), (17, .int .i64 n), (18, .int .i64 i), (30, .int .i64 n), (31, .int .i64 k)],
        some (.row 1 (X.map V.bool)) :: some (.row 1 ((slsV 2 n i ++ List.replicate (n - i) V.nils).set i (.sl 0 0 n))) :: D.map rowO⟩)
      (fun (k, X) => k ≤ n ∧ X.length = n ∧ ∀ j, j < k → X[j]? = some (fnF F i != fnF F j)) (fun (k, _) => n - k) (0, List.replicate n false) hE ?_ ?_ ⟨Nat.zero_le _, by simp, fun j hj => by omega⟩ ?_
    · kernel_rfl
    · refine at_keep [1, 3, 4, 5, 17, 18, 30, 31] ?_
      conv => whnf
      refine fH_go ?_
      rw [Int.toNat_natCast, Int.toNat_natCast, Nat.zero_add]
      show _ = (⟨108, _, some (.row 1 ((List.replicate n false).map V.bool)) :: _⟩ : ES)
      rw [List.map_replicate]
      rfl
    rintro ⟨k, X⟩ ⟨hk, hX, hXj⟩
    have hXm : (X.map V.bool).length = X.length := by simp
    have hg3 : ((slsV 2 n i ++ List.replicate (n - i) V.nils).set i (.sl 0 0 n))[0 + Int.toNat (i : Int)]? = some (.sl 0 0 n) := by
      rw [Nat.zero_add, Int.toNat_natCast, List.getElem?_set_self (by rw [hrl]; exact hlt)]
    by_cases hkn : k < n
    · obtain ⟨y, hy⟩ : ∃ y, X[k]? = some y := ⟨_, List.getElem?_eq_getElem (by omega)⟩
      have hg4 := bools_at hy
      have hFi := hF0 i hlt
      have hFk := hF0 k hkn
      have hnew : ∀ b, b = (fnF F i != fnF F k) → (X.set k b).length = n ∧ ∀ j, j < k + 1 → (X.set k b)[j]? = some (fnF F i != fnF F j) := fun b hb => by
        refine ⟨by simp [hX], fun j hj => ?_⟩
        rw [List.getElem?_set]
        split
        · rename_i e; subst e; rw [if_pos (by omega), hb]
        · exact hXj j (by omega)
      generalize fnF F k = bk at hFk hnew
      obtain ⟨bi, hbi⟩ : ∃ bi, fnF F i = bi := ⟨_, rfl⟩
      rw [hbi] at hFi
      cases bi
      all_goals cases bk
      all_goals
        conv => whnf
        repeat' (first | (refine brd_t (by first | assumption | omega) ?_; conv => whnf) | (refine brd_f (by first | assumption | omega) ?_; conv => whnf) | (refine ask (by first | assumption | omega) ?_; conv => whnf) | (refine fit64 (by omega) ?_; conv => whnf) | (refine fit (by simp only [kmin, kmax]; omega) ?_; conv => whnf) | (refine br_t (by assumption) ?_; conv => whnf) | (refine br_f (by assumption) ?_; conv => whnf) | (refine get_of (by assumption) ?_; conv => whnf) | (refine get_map (by assumption) ?_; conv => whnf) | (refine fH_go ?_; conv => whnf) | (refine get_of hg3 ?_; conv => whnf) | (refine get_of hg4 ?_; conv => whnf) | (refine draw_lex hE ?_ ?_; decide +kernel; conv => whnf) | (refine draw_any hE [⟨0, [(0, none), (1, none), (2, none), (3, none), (4, none), (5, none), (6, none), (7, none), (8, none), (9, none), (10, none), (11, none), (12, none), (13, none), (14, none), (15, none), (16, none)], some 17, [], [[]], []⟩] ?_ ?_; decide +kernel; conv => whnf) | (refine draw_any hE [⟨0, [(0, none), (1, none), (2, none), (3, none), (4, none), (5, none), (6, none), (7, none), (8, none), (9, none), (10, none), (11, none), (12, none), (13, none), (14, none), (15, none), (16, none), (17, none), (18, none), (19, none), (20, none)], none, [], [[]], []⟩] ?_ ?_; decide +kernel; conv => whnf) | (refine brd (fun h => ?_) (fun h => ?_) <;> conv => whnf) | (refine br (fun h => ?_) (fun h => ?_) <;> conv => whnf) | (refine ret_now hE ?_; conv => whnf) | (intro hlen; conv => whnf) | (refine seg_here ?_; conv => whnf) | (refine both ?_ ?_ <;> conv => whnf))
        refine next_keep [1, 3, 4, 5, 17, 18, 30, 31] (k + 1, X.set k _) ⟨hkn, hnew _ rfl⟩ (by show n - (k + 1) < n - k; omega) ?_
        conv => whnf
        refine fH_go ?_
        rw [Nat.zero_add, Int.toNat_natCast]
        show _ = (⟨108, _, some (.row 1 ((X.set k _).map V.bool)) :: _⟩ : ES)
        rw [List.map_set, hbi]
        rfl
    · conv => whnf
      repeat' (first | (refine brd_t (by first | assumption | omega) ?_; conv => whnf) | (refine brd_f (by first | assumption | omega) ?_; conv => whnf) | (refine ask (by first | assumption | omega) ?_; conv => whnf) | (refine fit64 (by omega) ?_; conv => whnf) | (refine fit (by simp only [kmin, kmax]; omega) ?_; conv => whnf) | (refine br_t (by assumption) ?_; conv => whnf) | (refine br_f (by assumption) ?_; conv => whnf) | (refine get_of (by assumption) ?_; conv => whnf) | (refine get_map (by assumption) ?_; conv => whnf) | (refine fH_go ?_; conv => whnf) | (refine draw_lex hE ?_ ?_; decide +kernel; conv => whnf) | (refine draw_any hE [⟨0, [(0, none), (1, none), (2, none), (3, none), (4, none), (5, none), (6, none), (7, none), (8, none), (9, none), (10, none), (11, none), (12, none), (13, none), (14, none), (15, none), (16, none)], some 17, [], [[]], []⟩] ?_ ?_; decide +kernel; conv => whnf) | (refine draw_any hE [⟨0, [(0, none), (1, none), (2, none), (3, none), (4, none), (5, none), (6, none), (7, none), (8, none), (9, none), (10, none), (11, none), (12, none), (13, none), (14, none), (15, none), (16, none), (17, none), (18, none), (19, none), (20, none)], none, [], [[]], []⟩] ?_ ?_; decide +kernel; conv => whnf) | (refine brd (fun h => ?_) (fun h => ?_) <;> conv => whnf) | (refine br (fun h => ?_) (fun h => ?_) <;> conv => whnf) | (refine ret_now hE ?_; conv => whnf) | (intro hlen; conv => whnf) | (refine seg_here ?_; conv => whnf) | (refine both ?_ ?_ <;> conv => whnf))
      refine up_push X _ D (next_keep [1, 3, 4, 17, 18] (i + 1, D ++ [X]) ⟨hlt, by simp [hD], fun j r hj => ?_⟩ (by show n - (i + 1) < n - i; omega) ?_)
      · rw [List.getElem?_append] at hj
        split at hj
        · exact hDr j r hj
        · rename_i hjn
          obtain ⟨rfl, rfl⟩ : j = i ∧ r = X := by
            match hk : j - D.length with
            | 0 => rw [hk] at hj; cases hj; exact ⟨by omega, rfl⟩
            | k + 1 => rw [hk] at hj; simp at hj
          exact ⟨hX, fun k' hk' => hXj k' (by omega)⟩
      · conv => whnf
        refine fH_go ?_
        rw [hD, mv_push n i n hlt]
        rfl
  · obtain rfl : i = n := by omega
    have hsq : Sq i D := ⟨hD, fun r hr => by obtain ⟨j, hj⟩ := List.mem_iff_getElem?.1 hr; exact (hDr j r hj).1⟩
    have hs0 : Snd T F i D := ⟨hsq, fun a b ha hb e => by
        obtain ⟨r, hr1, hl, hb2⟩ := hsq.get2 ha hb
        rw [(hDr a r hr1).2 b hb, e] at hb2
        exact ⟨[], by simp [wordOk], by simpa using hb2⟩, fun a b ha hb e => by
        obtain ⟨r, hr1, hl, hb2⟩ := hsq.get2 ha hb
        rw [(hDr a r hr1).2 b hb] at hb2
        simp only [Option.some.injEq] at hb2
        rw [← hb2]
        simpa using e⟩
    have hss : (slsV 2 i i).length = i := slsV_len 2 i i
    conv => whnf
    repeat' (first | (refine brd_t (by first | assumption | omega) ?_; conv => whnf) | (refine brd_f (by first | assumption | omega) ?_; conv => whnf) | (refine ask (by first | assumption | omega) ?_; conv => whnf) | (refine fit64 (by omega) ?_; conv => whnf) | (refine fit (by simp only [kmin, kmax]; omega) ?_; conv => whnf) | (refine br_t (by assumption) ?_; conv => whnf) | (refine br_f (by assumption) ?_; conv => whnf) | (refine get_of (by assumption) ?_; conv => whnf) | (refine get_map (by assumption) ?_; conv => whnf) | (refine draw_lex hE ?_ ?_; decide +kernel; conv => whnf) | (refine draw_any hE [⟨0, [(0, none), (1, none), (2, none), (3, none), (4, none), (5, none), (6, none), (7, none), (8, none), (9, none), (10, none), (11, none), (12, none), (13, none), (14, none), (15, none), (16, none)], some 17, [], [[]], []⟩] ?_ ?_; decide +kernel; conv => whnf) | (refine draw_any hE [⟨0, [(0, none), (1, none), (2, none), (3, none), (4, none), (5, none), (6, none), (7, none), (8, none), (9, none), (10, none), (11, none), (12, none), (13, none), (14, none), (15, none), (16, none), (17, none), (18, none), (19, none), (20, none)], none, [], [[]], []⟩] ?_ ?_; decide +kernel; conv => whnf) | (refine brd (fun h => ?_) (fun h => ?_) <;> conv => whnf) | (refine br (fun h => ?_) (fun h => ?_) <;> conv => whnf) | (refine ret_now hE ?_; conv => whnf) | (intro hlen; conv => whnf) | (refine seg_here ?_; conv => whnf) | (refine both ?_ ?_ <;> conv => whnf))
    refine loopE (fun ((D, more) : List (List Bool) × Bool) => ⟨108, [(1, .rp [.lst (T.map ints), .lst (F.map V.bool)]), (4, .sl 1 0 i), (7, .bool more)], none :: some (.row 1 (slsV 2 i i)) :: D.map rowO⟩)
      (fun (D, more) => Snd T F i D ∧ (more = false → Tab (nxT T) (fnF F) i (at2 D))) (fun (D, more) => 2 * cnt D + more.toNat) (D, true) hE ?_ ?_ ⟨hs0, fun h => by cases h⟩ ?_
    · kernel_rfl
    · refine at_keep [1, 4, 7] ?_
      conv => whnf
      refine fH_go ?_
      rw [Nat.sub_self, List.replicate_zero, List.append_nil]
    rintro ⟨D0, more⟩ ⟨hS0, hmore⟩
    cases more with
    | false =>
      have hD0 := hS0.sq.len
      conv => whnf
      repeat' (first | (refine brd_t (by first | assumption | omega) ?_; conv => whnf) | (refine brd_f (by first | assumption | omega) ?_; conv => whnf) | (refine ask (by first | assumption | omega) ?_; conv => whnf) | (refine fit64 (by omega) ?_; conv => whnf) | (refine fit (by simp only [kmin, kmax]; omega) ?_; conv => whnf) | (refine br_t (by assumption) ?_; conv => whnf) | (refine br_f (by assumption) ?_; conv => whnf) | (refine get_of (by assumption) ?_; conv => whnf) | (refine get_map (by assumption) ?_; conv => whnf) | (refine ret_up (up_rowsE 2 1 [none, some (.row 1 (slsV 2 i i))] (m := i) (D0.map fun r => r.map V.bool) ?_ ?_ ?_ ?_ (up_here (ret_now hE ?_)))) | (refine draw_lex hE ?_ ?_; decide +kernel; conv => whnf) | (refine draw_any hE [⟨0, [(0, none), (1, none), (2, none), (3, none), (4, none), (5, none), (6, none), (7, none), (8, none), (9, none), (10, none), (11, none), (12, none), (13, none), (14, none), (15, none), (16, none)], some 17, [], [[]], []⟩] ?_ ?_; decide +kernel; conv => whnf) | (refine draw_any hE [⟨0, [(0, none), (1, none), (2, none), (3, none), (4, none), (5, none), (6, none), (7, none), (8, none), (9, none), (10, none), (11, none), (12, none), (13, none), (14, none), (15, none), (16, none), (17, none), (18, none), (19, none), (20, none)], none, [], [[]], []⟩] ?_ ?_; decide +kernel; conv => whnf) | (refine brd (fun h => ?_) (fun h => ?_) <;> conv => whnf) | (refine br (fun h => ?_) (fun h => ?_) <;> conv => whnf) | (refine ret_now hE ?_; conv => whnf) | (intro hlen; conv => whnf) | (refine seg_here ?_; conv => whnf) | (refine both ?_ ?_ <;> conv => whnf))
      · rw [List.map_map]
        rfl
      · show some (some (Ob.row 1 (slsV 2 i i))) = some (some (Ob.row 1 (slsV 2 i (D0.map fun r => r.map V.bool).length)))
        rw [List.length_map, hD0]
      · obtain ⟨q, hq, rfl⟩ := List.mem_map.1 hlen
        exact ⟨by rw [List.length_map]; exact hS0.sq.row q hq, nr_boolsD q, cells_bool q⟩
      · show V.sl 1 0 i = _
        rw [List.length_map, hD0]
      · conv => whnf
        exact ⟨rfl, D0, rfl, hS0.sq, hmore rfl⟩
    | true =>
      conv => whnf
      repeat' (first | (refine brd_t (by first | assumption | omega) ?_; conv => whnf) | (refine brd_f (by first | assumption | omega) ?_; conv => whnf) | (refine ask (by first | assumption | omega) ?_; conv => whnf) | (refine fit64 (by omega) ?_; conv => whnf) | (refine fit (by simp only [kmin, kmax]; omega) ?_; conv => whnf) | (refine br_t (by assumption) ?_; conv => whnf) | (refine br_f (by assumption) ?_; conv => whnf) | (refine get_of (by assumption) ?_; conv => whnf) | (refine get_map (by assumption) ?_; conv => whnf) | (refine draw_lex hE ?_ ?_; decide +kernel; conv => whnf) | (refine draw_any hE [⟨0, [(0, none), (1, none), (2, none), (3, none), (4, none), (5, none), (6, none), (7, none), (8, none), (9, none), (10, none), (11, none), (12, none), (13, none), (14, none), (15, none), (16, none)], some 17, [], [[]], []⟩] ?_ ?_; decide +kernel; conv => whnf) | (refine draw_any hE [⟨0, [(0, none), (1, none), (2, none), (3, none), (4, none), (5, none), (6, none), (7, none), (8, none), (9, none), (10, none), (11, none), (12, none), (13, none), (14, none), (15, none), (16, none), (17, none), (18, none), (19, none), (20, none)], none, [], [[]], []⟩] ?_ ?_; decide +kernel; conv => whnf) | (refine brd (fun h => ?_) (fun h => ?_) <;> conv => whnf) | (refine br (fun h => ?_) (fun h => ?_) <;> conv => whnf) | (refine ret_now hE ?_; conv => whnf) | (intro hlen; conv => whnf) | (refine seg_here ?_; conv => whnf) | (refine both ?_ ?_ <;> conv => whnf))
      refine loopE (fun ((a, D, more) : Nat × List (List Bool) × Bool) => ⟨108, [(1, .rp [.lst (T.map ints), .lst (F.map V.bool)]), (4, .sl 1 0 i), (7, .bool more), (55, .int .i64 i), (56, .int .i64 a)], none :: some (.row 1 (slsV 2 i i)) :: D.map rowO⟩)
        (fun (a, D, more) => a ≤ i ∧ RInv T F i D0 D more a 0 0) (fun (a, _, _) => i - a) (0, D0, false) hE ?_ ?_ ⟨Nat.zero_le _, RInv.start hS0⟩ ?_
      · kernel_rfl
      · refine at_keep [1, 4, 7, 55, 56] ?_
        conv => whnf
        refine fH_go ?_
        rfl
      rintro ⟨a, D, more⟩ ⟨ha, hI⟩
      by_cases hai : a < i
      · conv => whnf
        repeat' (first | (refine brd_t (by first | assumption | omega) ?_; conv => whnf) | (refine brd_f (by first | assumption | omega) ?_; conv => whnf) | (refine ask (by first | assumption | omega) ?_; conv => whnf) | (refine fit64 (by omega) ?_; conv => whnf) | (refine fit (by simp only [kmin, kmax]; omega) ?_; conv => whnf) | (refine br_t (by assumption) ?_; conv => whnf) | (refine br_f (by assumption) ?_; conv => whnf) | (refine get_of (by assumption) ?_; conv => whnf) | (refine get_map (by assumption) ?_; conv => whnf) | (refine draw_lex hE ?_ ?_; decide +kernel; conv => whnf) | (refine draw_any hE [⟨0, [(0, none), (1, none), (2, none), (3, none), (4, none), (5, none), (6, none), (7, none), (8, none), (9, none), (10, none), (11, none), (12, none), (13, none), (14, none), (15, none), (16, none)], some 17, [], [[]], []⟩] ?_ ?_; decide +kernel; conv => whnf) | (refine draw_any hE [⟨0, [(0, none), (1, none), (2, none), (3, none), (4, none), (5, none), (6, none), (7, none), (8, none), (9, none), (10, none), (11, none), (12, none), (13, none), (14, none), (15, none), (16, none), (17, none), (18, none), (19, none), (20, none)], none, [], [[]], []⟩] ?_ ?_; decide +kernel; conv => whnf) | (refine brd (fun h => ?_) (fun h => ?_) <;> conv => whnf) | (refine br (fun h => ?_) (fun h => ?_) <;> conv => whnf) | (refine ret_now hE ?_; conv => whnf) | (intro hlen; conv => whnf) | (refine seg_here ?_; conv => whnf) | (refine both ?_ ?_ <;> conv => whnf))
        refine loopE (fun ((b, D, more) : Nat × List (List Bool) × Bool) => ⟨108, [(1, .rp [.lst (T.map ints), .lst (F.map V.bool)]), (4, .sl 1 0 i), (7, .bool more), (8, .int .i64 a), (55, .int .i64 i), (56, .int .i64 a), (60, .int .i64 i), (61, .int .i64 b)], none :: some (.row 1 (slsV 2 i i)) :: D.map rowO⟩)
          (fun (b, D, more) => b ≤ i ∧ RInv T F i D0 D more a b 0) (fun (b, _, _) => i - b) (0, D, more) hE ?_ ?_ ⟨Nat.zero_le _, hI⟩ ?_
        · kernel_rfl
        · refine at_keep [1, 4, 7, 8, 55, 56, 60, 61] ?_
          conv => whnf
          refine fH_go ?_
          rfl
        clear hI
        rintro ⟨b, D, more⟩ ⟨hb, hI⟩
        by_cases hbi : b < i
        · conv => whnf
          repeat' (first | (refine brd_t (by first | assumption | omega) ?_; conv => whnf) | (refine brd_f (by first | assumption | omega) ?_; conv => whnf) | (refine ask (by first | assumption | omega) ?_; conv => whnf) | (refine fit64 (by omega) ?_; conv => whnf) | (refine fit (by simp only [kmin, kmax]; omega) ?_; conv => whnf) | (refine br_t (by assumption) ?_; conv => whnf) | (refine br_f (by assumption) ?_; conv => whnf) | (refine get_of (by assumption) ?_; conv => whnf) | (refine get_map (by assumption) ?_; conv => whnf) | (refine draw_lex hE ?_ ?_; decide +kernel; conv => whnf) | (refine draw_any hE [⟨0, [(0, none), (1, none), (2, none), (3, none), (4, none), (5, none), (6, none), (7, none), (8, none), (9, none), (10, none), (11, none), (12, none), (13, none), (14, none), (15, none), (16, none)], some 17, [], [[]], []⟩] ?_ ?_; decide +kernel; conv => whnf) | (refine draw_any hE [⟨0, [(0, none), (1, none), (2, none), (3, none), (4, none), (5, none), (6, none), (7, none), (8, none), (9, none), (10, none), (11, none), (12, none), (13, none), (14, none), (15, none), (16, none), (17, none), (18, none), (19, none), (20, none)], none, [], [[]], []⟩] ?_ ?_; decide +kernel; conv => whnf) | (refine brd (fun h => ?_) (fun h => ?_) <;> conv => whnf) | (refine br (fun h => ?_) (fun h => ?_) <;> conv => whnf) | (refine ret_now hE ?_; conv => whnf) | (intro hlen; conv => whnf) | (refine seg_here ?_; conv => whnf) | (refine both ?_ ?_ <;> conv => whnf))
          refine loopE (fun ((c, D, more) : Nat × List (List Bool) × Bool) => ⟨108, [(1, .rp [.lst (T.map ints), .lst (F.map V.bool)]), (4, .sl 1 0 i), (7, .bool more), (8, .int .i64 a), (9, .int .i64 b), (10, .int .i64 c), (55, .int .i64 i), (56, .int .i64 a), (60, .int .i64 i), (61, .int .i64 b)], none :: some (.row 1 (slsV 2 i i)) :: D.map rowO⟩)
            (fun (c, D, more) => c ≤ 8 ∧ RInv T F i D0 D more a b c) (fun (c, _, _) => 8 - c) (0, D, more) hE ?_ ?_ ⟨Nat.zero_le _, hI⟩ ?_
          · kernel_rfl
          · refine at_keep [1, 4, 7, 8, 9, 10, 55, 56, 60, 61] ?_
            conv => whnf
            refine fH_go ?_
            rfl
          clear hI
          rintro ⟨c, D, more⟩ ⟨hc, hI⟩
          obtain ⟨ra, hra, hral, hrab⟩ := hI.snd.sq.get2 hai hbi
          have hram : (ra.map V.bool).length = ra.length := by simp
          have g1 := sls_at (p := 2) (m := i) hai
          have g2 := rows_get hra
          by_cases hc8 : c < 8
          · cases hab : at2 D a b with
            | true =>
              rw [hab] at hrab
              have g3 := bools_at hrab
              conv => whnf
              repeat' (first | (refine brd_t (by first | assumption | omega) ?_; conv => whnf) | (refine brd_f (by first | assumption | omega) ?_; conv => whnf) | (refine ask (by first | assumption | omega) ?_; conv => whnf) | (refine fit64 (by omega) ?_; conv => whnf) | (refine fit (by simp only [kmin, kmax]; omega) ?_; conv => whnf) | (refine br_t (by assumption) ?_; conv => whnf) | (refine br_f (by assumption) ?_; conv => whnf) | (refine get_of (by assumption) ?_; conv => whnf) | (refine get_map (by assumption) ?_; conv => whnf) | (refine get_of g1 ?_; conv => whnf) | (refine get_of g2 ?_; conv => whnf) | (refine get_of g3 ?_; conv => whnf) | (refine draw_lex hE ?_ ?_; decide +kernel; conv => whnf) | (refine draw_any hE [⟨0, [(0, none), (1, none), (2, none), (3, none), (4, none), (5, none), (6, none), (7, none), (8, none), (9, none), (10, none), (11, none), (12, none), (13, none), (14, none), (15, none), (16, none)], some 17, [], [[]], []⟩] ?_ ?_; decide +kernel; conv => whnf) | (refine draw_any hE [⟨0, [(0, none), (1, none), (2, none), (3, none), (4, none), (5, none), (6, none), (7, none), (8, none), (9, none), (10, none), (11, none), (12, none), (13, none), (14, none), (15, none), (16, none), (17, none), (18, none), (19, none), (20, none)], none, [], [[]], []⟩] ?_ ?_; decide +kernel; conv => whnf) | (refine brd (fun h => ?_) (fun h => ?_) <;> conv => whnf) | (refine br (fun h => ?_) (fun h => ?_) <;> conv => whnf) | (refine ret_now hE ?_; conv => whnf) | (intro hlen; conv => whnf) | (refine seg_here ?_; conv => whnf) | (refine both ?_ ?_ <;> conv => whnf))
              refine next_keep [1, 4, 7, 8, 55, 56, 60, 61] (b + 1, D, more) ⟨hbi, hI.told hab⟩ (by show i - (b + 1) < i - b; omega) ?_
              conv => whnf
              refine fH_go ?_
              rfl
            | false =>
              rw [hab] at hrab
              have g3 := bools_at hrab
              obtain ⟨rowa, x, hrowa, ha8, hxc, hx0, hxi, ex⟩ := hT0 a c hai hc8
              obtain ⟨rowb, y, hrowb, hb8, hyc, hy0, hyi, ey⟩ := hT0 b c hbi hc8
              have hrma : (rowa.map (V.int .i64)).length = rowa.length := by simp
              have hrmb : (rowb.map (V.int .i64)).length = rowb.length := by simp
              have hxn : x.toNat < i := by omega
              have hyn : y.toNat < i := by omega
              obtain ⟨rx, hrx, hrxl, hrxy⟩ := hI.snd.sq.get2 hxn hyn
              have hrxm : (rx.map V.bool).length = rx.length := by simp
              have g4 : (slsV 2 i i)[0 + Int.toNat x]? = some (.sl (x.toNat + 2) 0 i) := by rw [Nat.zero_add, slsV_get hxn]
              have g5 := rows_get hrx
              have g6 : (rx.map V.bool)[0 + Int.toNat y]? = some (.bool (at2 D x.toNat y.toNat)) := by rw [Nat.zero_add, List.getElem?_map, hrxy]; rfl
              have gc1 : rowa[Int.toNat (c : Int)]? = some x := by rw [Int.toNat_natCast]; exact hxc
              have gc2 : rowb[Int.toNat (c : Int)]? = some y := by rw [Int.toNat_natCast]; exact hyc
              have gr1 : T[Int.toNat (a : Int)]? = some rowa := by rw [Int.toNat_natCast]; exact hrowa
              have gr2 : T[Int.toNat (b : Int)]? = some rowb := by rw [Int.toNat_natCast]; exact hrowb
              have hse := rows_set (k := b) hra
              cases hxy : at2 D x.toNat y.toNat
              all_goals rw [hxy] at g6
              · conv => whnf
                repeat' (first | (refine brd_t (by first | assumption | omega) ?_; conv => whnf) | (refine brd_f (by first | assumption | omega) ?_; conv => whnf) | (refine ask (by first | assumption | omega) ?_; conv => whnf) | (refine fit64 (by omega) ?_; conv => whnf) | (refine fit (by simp only [kmin, kmax]; omega) ?_; conv => whnf) | (refine br_t (by assumption) ?_; conv => whnf) | (refine br_f (by assumption) ?_; conv => whnf) | (refine get_of (by assumption) ?_; conv => whnf) | (refine get_map (by assumption) ?_; conv => whnf) | (rewrite [g1]; conv => whnf) | (rewrite [g2]; conv => whnf) | (rewrite [g3]; conv => whnf) | (rewrite [g4]; conv => whnf) | (rewrite [g5]; conv => whnf) | (rewrite [g6]; conv => whnf) | (refine get_map gr1 ?_; conv => whnf) | (refine get_map gr2 ?_; conv => whnf) | (refine get_map gc1 ?_; conv => whnf) | (refine get_map gc2 ?_; conv => whnf) | (refine draw_lex hE ?_ ?_; decide +kernel; conv => whnf) | (refine draw_any hE [⟨0, [(0, none), (1, none), (2, none), (3, none), (4, none), (5, none), (6, none), (7, none), (8, none), (9, none), (10, none), (11, none), (12, none), (13, none), (14, none), (15, none), (16, none)], some 17, [], [[]], []⟩] ?_ ?_; decide +kernel; conv => whnf) | (refine draw_any hE [⟨0, [(0, none), (1, none), (2, none), (3, none), (4, none), (5, none), (6, none), (7, none), (8, none), (9, none), (10, none), (11, none), (12, none), (13, none), (14, none), (15, none), (16, none), (17, none), (18, none), (19, none), (20, none)], none, [], [[]], []⟩] ?_ ?_; decide +kernel; conv => whnf) | (refine brd (fun h => ?_) (fun h => ?_) <;> conv => whnf) | (refine br (fun h => ?_) (fun h => ?_) <;> conv => whnf) | (refine ret_now hE ?_; conv => whnf) | (intro hlen; conv => whnf) | (refine seg_here ?_; conv => whnf) | (refine both ?_ ?_ <;> conv => whnf))
                refine next_keep [1, 4, 7, 8, 9, 10, 55, 56, 60, 61] (c + 1, D, more) ⟨hc8, hI.pass (by rw [ex, ey]; exact hxy)⟩ (by show 8 - (c + 1) < 8 - c; omega) ?_
                conv => whnf
                refine fH_go ?_
                rfl
              · conv => whnf
                repeat' (first | (refine brd_t (by first | assumption | omega) ?_; conv => whnf) | (refine brd_f (by first | assumption | omega) ?_; conv => whnf) | (refine ask (by first | assumption | omega) ?_; conv => whnf) | (refine fit64 (by omega) ?_; conv => whnf) | (refine fit (by simp only [kmin, kmax]; omega) ?_; conv => whnf) | (refine br_t (by assumption) ?_; conv => whnf) | (refine br_f (by assumption) ?_; conv => whnf) | (refine get_of (by assumption) ?_; conv => whnf) | (refine get_map (by assumption) ?_; conv => whnf) | (refine fH_go ?_; conv => whnf) | (rewrite [g1]; conv => whnf) | (rewrite [g2]; conv => whnf) | (rewrite [g3]; conv => whnf) | (rewrite [g4]; conv => whnf) | (rewrite [g5]; conv => whnf) | (rewrite [g6]; conv => whnf) | (refine get_map gr1 ?_; conv => whnf) | (refine get_map gr2 ?_; conv => whnf) | (refine get_map gc1 ?_; conv => whnf) | (refine get_map gc2 ?_; conv => whnf) | (refine draw_lex hE ?_ ?_; decide +kernel; conv => whnf) | (refine draw_any hE [⟨0, [(0, none), (1, none), (2, none), (3, none), (4, none), (5, none), (6, none), (7, none), (8, none), (9, none), (10, none), (11, none), (12, none), (13, none), (14, none), (15, none), (16, none)], some 17, [], [[]], []⟩] ?_ ?_; decide +kernel; conv => whnf) | (refine draw_any hE [⟨0, [(0, none), (1, none), (2, none), (3, none), (4, none), (5, none), (6, none), (7, none), (8, none), (9, none), (10, none), (11, none), (12, none), (13, none), (14, none), (15, none), (16, none), (17, none), (18, none), (19, none), (20, none)], none, [], [[]], []⟩] ?_ ?_; decide +kernel; conv => whnf) | (refine brd (fun h => ?_) (fun h => ?_) <;> conv => whnf) | (refine br (fun h => ?_) (fun h => ?_) <;> conv => whnf) | (refine ret_now hE ?_; conv => whnf) | (intro hlen; conv => whnf) | (refine seg_here ?_; conv => whnf) | (refine both ?_ ?_ <;> conv => whnf))
                refine next_keep [1, 4, 7, 8, 9, 10, 55, 56, 60, 61] (c + 1, set2 D a b, true) ⟨hc8, hI.put hnx hai hbi hc8 hab (by rw [ex, ey]; exact hxy) _⟩ (by show 8 - (c + 1) < 8 - c; omega) ?_
                conv => whnf
                refine fH_go ?_
                rw [Nat.zero_add, Int.toNat_natCast, hse]
                rfl
          · obtain rfl : c = 8 := by omega
            conv => whnf
            repeat' (first | (refine brd_t (by first | assumption | omega) ?_; conv => whnf) | (refine brd_f (by first | assumption | omega) ?_; conv => whnf) | (refine ask (by first | assumption | omega) ?_; conv => whnf) | (refine fit64 (by omega) ?_; conv => whnf) | (refine fit (by simp only [kmin, kmax]; omega) ?_; conv => whnf) | (refine br_t (by assumption) ?_; conv => whnf) | (refine br_f (by assumption) ?_; conv => whnf) | (refine get_of (by assumption) ?_; conv => whnf) | (refine get_map (by assumption) ?_; conv => whnf) | (refine draw_lex hE ?_ ?_; decide +kernel; conv => whnf) | (refine draw_any hE [⟨0, [(0, none), (1, none), (2, none), (3, none), (4, none), (5, none), (6, none), (7, none), (8, none), (9, none), (10, none), (11, none), (12, none), (13, none), (14, none), (15, none), (16, none)], some 17, [], [[]], []⟩] ?_ ?_; decide +kernel; conv => whnf) | (refine draw_any hE [⟨0, [(0, none), (1, none), (2, none), (3, none), (4, none), (5, none), (6, none), (7, none), (8, none), (9, none), (10, none), (11, none), (12, none), (13, none), (14, none), (15, none), (16, none), (17, none), (18, none), (19, none), (20, none)], none, [], [[]], []⟩] ?_ ?_; decide +kernel; conv => whnf) | (refine brd (fun h => ?_) (fun h => ?_) <;> conv => whnf) | (refine br (fun h => ?_) (fun h => ?_) <;> conv => whnf) | (refine ret_now hE ?_; conv => whnf) | (intro hlen; conv => whnf) | (refine seg_here ?_; conv => whnf) | (refine both ?_ ?_ <;> conv => whnf))
            refine next_keep [1, 4, 7, 8, 55, 56, 60, 61] (b + 1, D, more) ⟨hbi, hI.full (by omega)⟩ (by show i - (b + 1) < i - b; omega) ?_
            conv => whnf
            refine fH_go ?_
            rfl
        · conv => whnf
          repeat' (first | (refine brd_t (by first | assumption | omega) ?_; conv => whnf) | (refine brd_f (by first | assumption | omega) ?_; conv => whnf) | (refine ask (by first | assumption | omega) ?_; conv => whnf) | (refine fit64 (by omega) ?_; conv => whnf) | (refine fit (by simp only [kmin, kmax]; omega) ?_; conv => whnf) | (refine br_t (by assumption) ?_; conv => whnf) | (refine br_f (by assumption) ?_; conv => whnf) | (refine get_of (by assumption) ?_; conv => whnf) | (refine get_map (by assumption) ?_; conv => whnf) | (refine draw_lex hE ?_ ?_; decide +kernel; conv => whnf) | (refine draw_any hE [⟨0, [(0, none), (1, none), (2, none), (3, none), (4, none), (5, none), (6, none), (7, none), (8, none), (9, none), (10, none), (11, none), (12, none), (13, none), (14, none), (15, none), (16, none)], some 17, [], [[]], []⟩] ?_ ?_; decide +kernel; conv => whnf) | (refine draw_any hE [⟨0, [(0, none), (1, none), (2, none), (3, none), (4, none), (5, none), (6, none), (7, none), (8, none), (9, none), (10, none), (11, none), (12, none), (13, none), (14, none), (15, none), (16, none), (17, none), (18, none), (19, none), (20, none)], none, [], [[]], []⟩] ?_ ?_; decide +kernel; conv => whnf) | (refine brd (fun h => ?_) (fun h => ?_) <;> conv => whnf) | (refine br (fun h => ?_) (fun h => ?_) <;> conv => whnf) | (refine ret_now hE ?_; conv => whnf) | (intro hlen; conv => whnf) | (refine seg_here ?_; conv => whnf) | (refine both ?_ ?_ <;> conv => whnf))
          refine next_keep [1, 4, 7, 55, 56] (a + 1, D, more) ⟨hai, hI.row (by omega)⟩ (by show i - (a + 1) < i - a; omega) ?_
          conv => whnf
          refine fH_go ?_
          rfl
      · conv => whnf
        repeat' (first | (refine brd_t (by first | assumption | omega) ?_; conv => whnf) | (refine brd_f (by first | assumption | omega) ?_; conv => whnf) | (refine ask (by first | assumption | omega) ?_; conv => whnf) | (refine fit64 (by omega) ?_; conv => whnf) | (refine fit (by simp only [kmin, kmax]; omega) ?_; conv => whnf) | (refine br_t (by assumption) ?_; conv => whnf) | (refine br_f (by assumption) ?_; conv => whnf) | (refine get_of (by assumption) ?_; conv => whnf) | (refine get_map (by assumption) ?_; conv => whnf) | (refine draw_lex hE ?_ ?_; decide +kernel; conv => whnf) | (refine draw_any hE [⟨0, [(0, none), (1, none), (2, none), (3, none), (4, none), (5, none), (6, none), (7, none), (8, none), (9, none), (10, none), (11, none), (12, none), (13, none), (14, none), (15, none), (16, none)], some 17, [], [[]], []⟩] ?_ ?_; decide +kernel; conv => whnf) | (refine draw_any hE [⟨0, [(0, none), (1, none), (2, none), (3, none), (4, none), (5, none), (6, none), (7, none), (8, none), (9, none), (10, none), (11, none), (12, none), (13, none), (14, none), (15, none), (16, none), (17, none), (18, none), (19, none), (20, none)], none, [], [[]], []⟩] ?_ ?_; decide +kernel; conv => whnf) | (refine brd (fun h => ?_) (fun h => ?_) <;> conv => whnf) | (refine br (fun h => ?_) (fun h => ?_) <;> conv => whnf) | (refine ret_now hE ?_; conv => whnf) | (intro hlen; conv => whnf) | (refine seg_here ?_; conv => whnf) | (refine both ?_ ?_ <;> conv => whnf))
        refine next_keep [1, 4, 7] (D, more) ⟨hI.snd, fun e => by subst e; exact hI.done (by omega)⟩ ?_ ?_
        · show 2 * cnt D + more.toNat < 2 * cnt D0 + 1
          rcases hI.so with ⟨rfl, rfl, _⟩ | ⟨rfl, h⟩
          · simp
          · simp; omega
        conv => whnf
        refine fH_go ?_
        rfl
end Go.Proofs.YtmjglpdfkkmcoaaDoor
