/- Calls that give a new object of the caller's own: slices.Clone. No conditions. -/
import Derived.Test.YtkkcmobnhiiacaaDoorOwn
import Derived.Test.YtkkcmobnhiiacaaDoorAwy
set_option linter.unusedSimpArgs false
set_option linter.unusedVariables false
set_option maxRecDepth 100000
namespace Go.Proofs.YtkkcmobnhiiacaaDoor
open Go.RowKit

/-- A new empty object, of which nothing is known but that it is there. -/
theorem up_new {C : Ctx} {K : ES → Prop} (z : Nat) {n : Nat} {u : List (Nat × V)} {h : List (Option Ob)} (hk : UpE C K ⟨n, u, putOb h (.row z [])⟩) : UpE C K ⟨n, u, h⟩ := by
  refine ⟨up_of_rel (fun a w hr => ?_) hk.out⟩
  obtain ⟨I, bl, hp⟩ := hr.parts
  exact (hp.adopt z).rel
/-- A call that fills a new object of the caller's. -/
theorem call_fresh {C : Ctx} {P : Program} {f : FuncId} {z m : Nat} {els' xs0 xs1 : List V} {fop : Operand} {args : List Operand} {K : V → ES → Prop} {σ : ES} (h : HFn P f xs0 [.row z []] [] (fun r o => r = .sl 0 0 m ∧ o = [.row z els'])) (hC : C.P = P) (hb : hasBody P f = true)
    (p : Nat) (he : evalC σ fop args = some (f, xs1)) (hx : rnL 1 (fun _ => p) xs0 xs1) (hrow : σ.heap[p]? = some (some (.row z []))) (hn' : nrL els')
    (hK : killUE p σ.u fun u => fH ((killH p σ.heap).set p (some (.row z els'))) fun h => K (.sl p 0 m) ⟨σ.n, u, h⟩) : CallN C fop args f xs1 K σ := by
  rw [killUE_eq, fH_eq] at hK
  refine call_h h hC hb he (fun _ => p) ?_ ?_ ?_ [p] ?_ ?_ ?_
  · intro i j hi hj _
    simp at hi hj
    omega
  · exact hx
  · intro j o ho
    match j, ho with
    | 0, ho =>
      simp at ho
      subst ho
      exact ⟨_, hrow, [], rfl, rnL_self trivial⟩
    | n + 1, ho => simp at ho
  · intro j _ hn
    exact absurd (by simp) hn
  · intro id hid
    simp at hid
    exact ⟨0, by simp, hid.symm⟩
  · rintro r0 objs' ⟨rfl, rfl⟩ _
    refine ⟨.sl p 0 m, [.row z els'], by simp [rnV], rfl, ?_, hK⟩
    intro j o o' ho ho'
    match j, ho, ho' with
    | 0, ho, ho' =>
      simp at ho ho'
      subst ho; subst ho'
      exact ⟨els', rfl, rnL_self hn'⟩
    | n + 1, ho, _ => simp at ho
/-- Such a call, whatever the heap holds. -/
theorem fresh_c {C : Ctx} {f : FuncId} {z m : Nat} {els' xs : List V} (h : HFn C.P f xs [.row z []] [] (fun r o => r = .sl 0 0 m ∧ o = [.row z els'])) (hx : nrL xs) (hn' : nrL els') : FreshC C f xs m z els' := by
  rintro s a w vs ⟨I, bl, hdef, henv, hxs, hH⟩
  have hH : HeapRep C s.heap w I bl := hH
  generalize hp : freshIn s.heap = p
  have hpn : ∀ o, s.heap[p]? ≠ some (some o) := fun o ho => by
    have : ∀ (h : List (Option Ob)) (o : Ob), h[freshIn h]? ≠ some (some o) := by
      intro h
      induction h with
      | nil => intro o ho; simp [freshIn] at ho
      | cons x r ih =>
        intro o ho
        cases x with
        | none => simp [freshIn] at ho
        | some y => exact ih o (by simpa [freshIn] using ho)
    exact this s.heap o (by rw [hp]; exact ho)
  have hblp : bl p = none := by
    cases hb : bl p with
    | none => rfl
    | some i =>
      obtain ⟨o, ho⟩ := hH.live p i hb
      exact absurd ho (hpn o)
  let blc : Nat → Option BI := fun j => if j = 0 then some ⟨none, 0, z⟩ else none
  have hblk : ∀ b, ¬ blocksOf blc b := by
    rintro b ⟨j, i, h1, h2⟩
    by_cases hj : j = 0
    · simp only [blc, if_pos hj, Option.some.injEq] at h1
      subst h1
      cases h2
    · simp only [blc, if_neg hj] at h1
      cases h1
  have hHc : HeapRep ⟨C.P, w, blocksOf blc, I⟩ ([Ob.row z []].map some) w I blc := by
    refine ⟨fun j o ho => ?_, fun j i hj => ?_, fun j j' i i' b h1 h2 h3 h4 => ?_, fun j i b h1 h2 => absurd ⟨j, i, h1, h2⟩ (hblk b), fun b hb => ⟨(hH.imm b hb).1, .inl hb⟩, Kept.refl _ _⟩
    · cases j with
      | zero =>
        simp at ho
        subst ho
        exact ⟨_, rfl, rfl, fun i x hx => by simp at hx, rfl⟩
      | succ j => simp at ho
    · by_cases e : j = 0
      · subst e; exact ⟨_, rfl⟩
      · simp only [blc, if_neg e] at hj; cases hj
    · exact absurd ⟨j, i, h1, h3⟩ (hblk b)
  refine (h w I blc vs hxs.1 (fun i v x hv hx' => ?_) hHc).mono ?_
  · have hself := rnL_self (k := 0) (ρ := id) hx
    obtain ⟨hxl, hxr⟩ := rnL_get hself
    exact rep_down (k := 0) (ρ := id) (fun j hj => absurd hj (Nat.not_lt_zero j)) x v x (hxr i x x hx' hx') (hxs.2 i v x hv hx')
  rintro e w' ⟨v, r0, objs', I', bl', rfl, ⟨rfl, rfl⟩, _, hrep, hH', _⟩
  have hown' : ∀ j i b, bl' j = some i → i.blk = some b → b < w'.heap.size ∧ ¬ I' b ∧ (blocksOf blc b ∨ w.heap.size ≤ b) := fun j i b h1 h2 => hH'.own j i b h1 h2
  have hown0 : ∀ j i b, bl' j = some i → i.blk = some b → w.heap.size ≤ b := fun j i b h1 h2 => (hown' j i b h1 h2).2.2.elim (fun h => absurd h (hblk b)) id
  have hkeep : ∀ b, b < w.heap.size → w'.heap[b]? = w.heap[b]? := fun b h1 => hH'.kept.block b h1 (hblk b)
  have hsize : w.heap.size ≤ w'.heap.size := hH'.kept.size
  have hlater : Later I w w' := ⟨fun b hb => hkeep b (hH.imm b hb).1, hH'.kept.shape⟩
  let I2 : Nat → Prop := fun b => I b ∨ I' b
  let bl2 : Nat → Option BI := fun id => if id = p then bl' 0 else bl id
  have hin : ∀ j, j < 1 → bl2 ((fun _ => p) j) = bl' j := fun j hj => by
    have : j = 0 := by omega
    subst this
    simp only [bl2, if_pos rfl]
  have hout : ∀ id, id ≠ p → bl2 id = bl id := fun id hid => by simp only [bl2, if_neg hid]
  have hbl2 : ∀ id i, bl id = some i → bl2 id = some i := fun id i hi => by
    by_cases e : id = p
    · subst e; rw [hblp] at hi; cases hi
    · rw [hout id e]; exact hi
  have hI2 : ∀ b, I b → I2 b := fun b hb => .inl hb
  have hI2' : ∀ b, I' b → I2 b := fun b hb => .inr hb
  have hI'cases : ∀ b, I' b → b < w'.heap.size ∧ (I b ∨ w.heap.size ≤ b) := fun b hb => by
    obtain ⟨g1, g2⟩ := hH'.imm b hb
    exact ⟨g1, g2.elim .inl fun h => h.elim (fun h => absurd h (hblk b)) .inr⟩
  have hoth : ∀ id, id ≠ p → (putOb s.heap (.row z els'))[id]? = s.heap[id]? := fun id hid => putOb_other _ _ _ (by rw [hp]; exact hid)
  have hatp : (putOb s.heap (.row z els'))[p]? = some (some (.row z els')) := by rw [← hp]; exact putOb_fresh _ _
  refine ⟨v, .sl p 0 m, ⟨s.env, putOb s.heap (.row z els')⟩, rfl, ⟨rfl, rfl⟩, I2, bl2, hdef, henv.later hlater hI2 hbl2, ⟨rfl, fun i v' x hv hx' => ?_⟩, ?_⟩
  · cases i with
    | succ i => simp at hv
    | zero =>
      simp at hv hx'
      subst hv; subst hx'
      exact rep_up hI2' hin hrep _ (by simp [rnV])
  · refine ⟨fun id o ho => ?_, fun id i hi => ?_, fun id id' i i' b h1 h2 h3 h4 => ?_, fun id i b h1 h2 => ?_, fun b hb => ?_, ?_⟩
    · have ho : (putOb s.heap (.row z els'))[id]? = some (some o) := ho
      by_cases e : id = p
      · subst e
        rw [hatp] at ho
        simp only [Option.some.injEq] at ho
        subst ho
        exact ob_up (ρ := fun _ => id) hI2' hin (Nat.lt_succ_self 0) (o := .row z els') (o' := .row z els') ⟨els', rfl, rnL_self hn'⟩ (hH'.obj 0 _ rfl)
      · rw [hoth id e] at ho
        exact (hH.obj id o ho).later hlater hI2 hbl2 (fun i b h1 h2 => hkeep b (hH.own id i b h1 h2).1) (fun h => by rw [hout id e]; exact h)
    · show ∃ o, (putOb s.heap (.row z els'))[id]? = some (some o)
      by_cases e : id = p
      · subst e; exact ⟨_, hatp⟩
      · rw [hoth id e]
        rw [hout id e] at hi
        exact hH.live id i hi
    · by_cases e : id = p
      · by_cases e' : id' = p
        · rw [e, e']
        · rw [hout id' e'] at h2
          rw [e] at h1
          have h1 : bl' 0 = some i := by rw [← hin 0 (by omega)]; exact h1
          have := hown0 0 i b h1 h3
          have := (hH.own id' i' b h2 h4).1
          omega
      · rw [hout id e] at h1
        by_cases e' : id' = p
        · rw [e'] at h2
          have h2 : bl' 0 = some i' := by rw [← hin 0 (by omega)]; exact h2
          have := hown0 0 i' b h2 h4
          have := (hH.own id i b h1 h3).1
          omega
        · rw [hout id' e'] at h2
          exact hH.apart id id' i i' b h1 h2 h3 h4
    · by_cases e : id = p
      · rw [e] at h1
        have h1 : bl' 0 = some i := by rw [← hin 0 (by omega)]; exact h1
        have g0 := hown0 0 i b h1 h2
        obtain ⟨g1, g2, _⟩ := hown' 0 i b h1 h2
        refine ⟨g1, fun hb => ?_, .inr (Nat.le_trans hH.kept.size g0)⟩
        rcases hb with hb | hb
        · have := (hH.imm b hb).1; omega
        · exact g2 hb
      · rw [hout id e] at h1
        obtain ⟨g1, g2, g3⟩ := hH.own id i b h1 h2
        refine ⟨Nat.lt_of_lt_of_le g1 hsize, fun hb => ?_, g3⟩
        rcases hb with hb | hb
        · exact g2 hb
        · rcases (hI'cases b hb).2 with h5 | h5
          · exact g2 h5
          · omega
    · rcases hb with hb | hb
      · obtain ⟨g1, g2⟩ := hH.imm b hb
        exact ⟨Nat.lt_of_lt_of_le g1 hsize, g2⟩
      · obtain ⟨g1, g2⟩ := hI'cases b hb
        refine ⟨g1, ?_⟩
        rcases g2 with g2 | g2
        · exact (hH.imm b g2).2
        · exact .inr (.inr (Nat.le_trans hH.kept.size g2))
    · have hk1 := hH.kept
      have hk2 := hH'.kept
      refine ⟨hk2.os.trans hk1.os, hk2.tape.trans hk1.tape, hk2.output.trans hk1.output, Nat.le_trans hk1.size hsize, fun b h1 h2 => ?_, fun b s hs => hk2.shape b s (hk1.shape b s hs)⟩
      have hlt : b < w.heap.size := Nat.lt_of_lt_of_le h1 hk1.size
      rw [hkeep b hlt]
      exact hk1.block b h1 h2
/-- In a region that draws its order. -/
theorem callm {C : Ctx} {P : Program} {f : FuncId} {z m : Nat} {els' xs : List V} {K : Nat → Nat → List V → Prop} (h : HFn P f xs [.row z []] [] (fun r o => r = .sl 0 0 m ∧ o = [.row z els'])) (hC : C.P = P) (hb : hasBody P f = true) (hx : nrL xs) (hn' : nrL els') (hK : K m z els') : CallNM C f xs K := by
  subst hC
  exact ⟨m, z, els', hb, fresh_c h hx hn', hK⟩
/-- A call of a method on an own variable: it stays where it lies. -/
theorem call_mth {C : Ctx} {P : Program} {f : FuncId} {z : Nat} {els els' xs0 : List V} {R0 : V} {fop : Operand} {args : List Operand} {K : V → ES → Prop} {σ : ES} (h : HFn P f (.ptr 0 0 0 :: xs0) [.row z els] [0] (fun r o => r = R0 ∧ o = [.row z els'])) (hC : C.P = P) (hb : hasBody P f = true)
    (p : Nat) (he : evalC σ fop args = some (f, .ptr p 0 0 :: xs0)) (hx : nrL xs0) (hR : R0.nr) (hrow : σ.heap[p]? = some (some (.row z els))) (hn : nrL els) (hn' : nrL els')
    (hK : fH (σ.heap.set p (some (.row z els'))) fun h => K R0 ⟨σ.n, σ.u, h⟩) : CallN C fop args f (.ptr p 0 0 :: xs0) K σ := by
  rw [fH_eq] at hK
  refine call_h h hC hb he (fun _ => p) ?_ ?_ ?_ [] ?_ ?_ ?_
  · intro i j hi hj _
    simp at hi hj
    omega
  · simp only [rnL]
    exact ⟨.ptr p 0 0, xs0, rfl, by simp [rnV], rnL_self hx⟩
  · intro j o ho
    match j, ho with
    | 0, ho =>
      simp at ho
      subst ho
      exact ⟨_, hrow, els, rfl, rnL_self hn⟩
    | n + 1, ho => simp at ho
  · intro j hj _
    simp at hj
    subst hj
    simp
  · intro id hid
    simp at hid
  · rintro r0 objs' ⟨rfl, rfl⟩ _
    refine ⟨r0, [.row z els'], rnV_nr r0 hR, rfl, ?_, by rw [killUM_nil]; exact hK⟩
    intro j o o' ho ho'
    match j, ho, ho' with
    | 0, ho, ho' =>
      simp at ho ho'
      subst ho; subst ho'
      exact ⟨els', rfl, rnL_self hn'⟩
    | n + 1, ho, _ => simp at ho
theorem Rep.nl {w : World} {I : Nat → Prop} {bl : Nat → Option BI} {v : Value} {x : V} (h : Rep w I bl v x) : Rep w I bl v x.nl := by
  induction h with
  | pure v x h => exact .pure _ _ h.nl
  | nsl id base z h => exact .nsl id base z h
  | sl id off len cap b base z n e h1 h2 h3 h4 h5 => exact .sl id off len cap b base z n e h1 h2 h3 h4 h5
  | esl id off a i h => exact .esl id off a i h
  | ptr id i j b base z n e h1 h2 => exact .ptr id i j b base z n e h1 h2
  | it id b base z h1 => exact .it id b base z h1
  | agg vs l h1 h2 h3 ih =>
    simp only [V.nl]
    refine .agg vs _ (by rw [nlL_length, h1]) h2 (fun i v c hv hc => ?_)
    obtain ⟨x, hx, rfl⟩ := nlL_get l i c hc
    exact ih i v x hv hx
  | fn f vs l h1 h2 ih =>
    simp only [V.nl]
    refine .fn f vs _ (by rw [nlL_length, h1]) (fun i v c hv hc => ?_)
    obtain ⟨x, hx, rfl⟩ := nlL_get l i c hc
    exact ih i v x hv hx
  | tup vs l h1 h2 ih =>
    simp only [V.nl]
    refine .tup vs _ (by rw [nlL_length, h1]) (fun i v c hv hc => ?_)
    obtain ⟨x, hx, rfl⟩ := nlL_get l i c hc
    exact ih i v x hv hx
theorem nlL_append : ∀ a b : List V, nlL (a ++ b) = nlL a ++ nlL b
  | [], b => by simp [nlL]
  | x :: a, b => by simp [nlL, nlL_append a b]
/-- Nil slices among an object's values are empty slices. -/
theorem up_nl {C : Ctx} {K : ES → Prop} (p : Nat) {z n : Nat} {els : List V} {u : List (Nat × V)} {h : List (Option Ob)} (ho : h[p]? = some (some (.row z els))) (hk : UpE C K ⟨n, u, h.set p (some (.row z (nlL els)))⟩) : UpE C K ⟨n, u, h⟩ := by
  refine ⟨up_of_rel (fun a w hr => ?_) hk.out⟩
  obtain ⟨I, bl, hp⟩ := hr.parts
  have hpl : p < h.length := (List.getElem?_eq_some_iff.1 ho).1
  refine RP.rel (I := I) (bl := bl) ⟨hp.defers, hp.env, ⟨fun id o hoo => ?_, fun id i hi => ?_, hp.heap.apart, hp.heap.own, hp.heap.imm, hp.heap.kept⟩⟩
  · have hoo : (h.set p (some (.row z (nlL els))))[id]? = some (some o) := hoo
    by_cases e : id = p
    · subst e
      rw [List.getElem?_set_self hpl] at hoo
      simp only [Option.some.injEq] at hoo
      subst hoo
      obtain ⟨bi, h1, h2, h3, h4⟩ := hp.heap.obj id _ ho
      refine ⟨bi, h1, h2, fun i x hx => ?_, ?_⟩
      · obtain ⟨y, hy, rfl⟩ := nlL_get els i x hx
        rw [nl_cells, nlL_length]; exact h3 i y hy
      · cases hbl : bi.blk with
        | none => simp only [hbl] at h4 ⊢; subst h4; rfl
        | some b =>
          simp only [hbl] at h4 ⊢
          obtain ⟨cur, e, hg, hsz, hc⟩ := h4
          refine ⟨cur, e, hg, by rw [nlL_length]; exact hsz, fun i x j c hx hxc => ?_⟩
          obtain ⟨y, hy, rfl⟩ := nlL_get els i x hx
          rw [nl_cells] at hxc
          obtain ⟨c', hc', rfl⟩ := nlL_get _ j c hxc
          obtain ⟨u, hu, h1', hr'⟩ := hc i y j c' hy hc'
          exact ⟨u, hu, h1', hr'.nl⟩
    · rw [List.getElem?_set_ne (Ne.symm e)] at hoo
      exact hp.heap.obj id o hoo
  · show ∃ o, (h.set p (some (.row z (nlL els))))[id]? = some (some o)
    by_cases e : id = p
    · subst e; exact ⟨_, List.getElem?_set_self hpl⟩
    · rw [List.getElem?_set_ne (Ne.symm e)]
      exact hp.heap.live id i hi
theorem killL_app (id : Nat) (a b : List V) : killL id (a ++ b) = killL id a ++ killL id b := by
  induction a with
  | nil => simp [killL]
  | cons x a ih => simp only [List.cons_append, killL, ih]
theorem frzL_app (id : Nat) (els a b : List V) : frzL id els (a ++ b) = frzL id els a ++ frzL id els b := by
  induction a with
  | nil => simp [frzL]
  | cons x a ih => simp only [List.cons_append, frzL, ih]
theorem nr_i64 : ∀ L : List Int, nrL (L.map (V.int .i64))
  | [] => trivial
  | x :: L => ⟨trivial, nr_i64 L⟩
theorem nr_bools : ∀ L : List Bool, nrL (L.map V.bool)
  | [] => trivial
  | x :: L => ⟨trivial, nr_bools L⟩
theorem nr_strs : ∀ L : List (List UInt8), nrL (L.map V.str)
  | [] => trivial
  | x :: L => ⟨trivial, nr_strs L⟩
theorem mv_nrV (a b : Nat) (x : V) : x.nr → x.mv a b = x := by
  refine V.rec (motive_1 := fun x => x.nr → x.mv a b = x) (motive_2 := fun l => nrL l → mvL a b l = l) ?_ ?_ ?_ ?_ ?_ ?_ ?_ ?_ ?_ ?_ ?_ ?_ ?_ ?_ ?_ ?_ ?_ ?_ ?_ x
  all_goals first
    | (intro h; simp [V.mv, mvL]; done)
    | (intro a h; simp [V.mv]; done)
    | (intro a b h; simp [V.mv]; done)
    | (intro a b c h; simp [V.mv]; done)
    | (intro a ih h; simp [V.mv]; done)
    | (intro l ih h; simp only [V.mv]; rw [ih h])
    | (intro f l ih h; simp only [V.mv]; rw [ih h])
    | (intro a b c h; exact (h : False).elim)
    | (intro a h; exact (h : False).elim)
    | (intro x l h1 h2 h; simp only [mvL]; rw [h1 h.1, h2 h.2])
theorem mv_nrL (a b : Nat) : ∀ {l : List V}, nrL l → mvL a b l = l
  | [], _ => by simp [mvL]
  | x :: l, h => by simp only [mvL]; rw [mv_nrV a b x h.1, mv_nrL a b h.2]

theorem h_clone_bool (l : List Bool) (hl : l.length ≤ 1048576) : HFn Tryd.prog 107 [.lst (l.map V.bool)] [.row 1 []] [] (fun r o => r = .sl 0 0 l.length ∧ o = [.row 1 (l.map V.bool)]) := by
  have hlm : (l.map V.bool).length = l.length := by simp
  have hcl : ∀ y ∈ l.map V.bool, y.cells.length = 1 := fun y hy => by obtain ⟨q, _, rfl⟩ := List.mem_map.1 hy; rfl
  have hkl : killL 2 (List.take 0 (List.drop 0 []) ++ l.map V.bool) = l.map V.bool := by rw [List.drop_nil, List.take_nil, List.nil_append, kill_nrL _ (nr_bools l)]
  refine hfnE (T := Tryd.tt) Tryd.func107 rfl tt_all follows_all ?_ ?_ fun C vs hC hE => ?_
  · kernel_rfl
  · exact Nat.le_of_ble_eq_true (by kernel_rfl)
  conv => whnf
  repeat' (first | (refine brd_t (by first | assumption | omega) ?_; conv => whnf) | (refine brd_f (by first | assumption | omega) ?_; conv => whnf) | (refine ask (by first | assumption | omega) ?_; conv => whnf) | (refine fit64 (by omega) ?_; conv => whnf) | (refine fit (by simp only [kmin, kmax]; omega) ?_; conv => whnf) | (refine br_t (by assumption) ?_; conv => whnf) | (refine br_f (by assumption) ?_; conv => whnf) | (refine get_of (by assumption) ?_; conv => whnf) | (refine get_map (by assumption) ?_; conv => whnf) | (refine ⟨hcl, ?_⟩; conv => whnf) | (refine draw_lex hE ?_ ?_; decide +kernel; conv => whnf) | (refine brd (fun h => ?_) (fun h => ?_) <;> conv => whnf) | (refine br (fun h => ?_) (fun h => ?_) <;> conv => whnf) | (refine ret_now hE ?_; conv => whnf) | (intro hlen; conv => whnf) | (refine seg_here ?_; conv => whnf) | (refine both ?_ ?_ <;> conv => whnf))
  · have h0 : l = [] := by have := hlen (by assumption); simpa using this
    subst h0
    refine hret_up (up_own 2 1 rfl rfl (up_drop 0 (up_move 2 0 (by decide) rfl rfl (up_here (hret_now hE ?_)))))
    conv => whnf
    exact ⟨rfl, rfl, rfl, rfl⟩
  · refine hret_up (up_drop 0 (up_move 2 0 (by decide) rfl rfl (up_here (hret_now hE ?_))))
    conv => whnf
    refine ⟨rfl, rfl, ?_, ?_⟩
    · show V.sl 0 0 (0 + (l.map V.bool).length) = V.sl 0 0 l.length
      rw [hlm, Nat.zero_add]
    · rw [hkl]
      show [Ob.row 1 (mvL 2 0 (killL 0 (l.map V.bool)))] = _
      rw [kill_nrL _ (nr_bools l), mv_nrL _ _ (nr_bools l)]

end Go.Proofs.YtkkcmobnhiiacaaDoor
