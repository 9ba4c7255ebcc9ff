/- Abstract walk: an object takes another place. No conditions. -/
import Derived.Test.YtbdogoccjcifnaaDoorAwy
set_option linter.unusedSimpArgs false
set_option linter.unusedVariables false
set_option maxRecDepth 100000
namespace Go.Proofs.YtbdogoccjcifnaaDoor
open Go.RowKit

def mvI (i j k : Nat) : Nat := if k = i then j else k
mutual
def V.mv (i j : Nat) : V → V
  | .sl k o n => .sl (mvI i j k) o n
  | .ptr k a b => .ptr (mvI i j k) a b
  | .it k => .it (mvI i j k)
  | .agg l => .agg (mvL i j l)
  | .fn f l => .fn f (mvL i j l)
  | .tup l => .tup (mvL i j l)
  | x => x
def mvL (i j : Nat) : List V → List V
  | [] => []
  | x :: l => x.mv i j :: mvL i j l
end
def Ob.mv (i j : Nat) : Ob → Ob
  | .row z l => .row z (mvL i j l)
  | .iter s p => .iter s p
  | .mp es => .mp es
  | .hid vs l => .hid vs (mvL i j l)
  | .bld T y => .bld T (y.map fun y => (mvI i j y.1, y.2))
  | .buf U s => .buf U s
def mvH (i j : Nat) : List (Option Ob) → List (Option Ob)
  | [] => []
  | none :: r => none :: mvH i j r
  | some o :: r => some (o.mv i j) :: mvH i j r
theorem mvL_length (a b : Nat) : ∀ l, (mvL a b l).length = l.length
  | [] => by simp [mvL]
  | x :: l => by simp [mvL, mvL_length a b l]
theorem mvL_get (a b : Nat) : ∀ (l : List V) (i : Nat) (c : V), (mvL a b l)[i]? = some c → ∃ x, l[i]? = some x ∧ c = x.mv a b
  | [], i, c, h => by simp [mvL] at h
  | x :: l, 0, c, h => by simp [mvL] at h; exact ⟨x, rfl, h.symm⟩
  | x :: l, i + 1, c, h => by
    simp only [mvL, List.getElem?_cons_succ] at h
    obtain ⟨y, hy, e⟩ := mvL_get a b l i c h
    exact ⟨y, by simpa using hy, e⟩
theorem mvH_get (a b : Nat) : ∀ (h : List (Option Ob)) (k : Nat) (o : Ob), (mvH a b h)[k]? = some (some o) → ∃ o', h[k]? = some (some o') ∧ o = o'.mv a b
  | [], k, o, h => by simp [mvH] at h
  | none :: r, 0, o, h => by simp [mvH] at h
  | some x :: r, 0, o, h => by simp [mvH] at h; exact ⟨x, rfl, h.symm⟩
  | none :: r, k + 1, o, h => by simp only [mvH, List.getElem?_cons_succ] at h; simpa using mvH_get a b r k o h
  | some x :: r, k + 1, o, h => by simp only [mvH, List.getElem?_cons_succ] at h; simpa using mvH_get a b r k o h
theorem mvH_live (a b : Nat) : ∀ (h : List (Option Ob)) (k : Nat) (o : Ob), h[k]? = some (some o) → (mvH a b h)[k]? = some (some (o.mv a b))
  | [], k, o, h => by simp at h
  | none :: r, 0, o, h => by simp at h
  | some x :: r, 0, o, h => by simp at h; subst h; simp [mvH]
  | none :: r, k + 1, o, h => by simp only [mvH, List.getElem?_cons_succ] at h ⊢; exact mvH_live a b r k o h
  | some x :: r, k + 1, o, h => by simp only [mvH, List.getElem?_cons_succ] at h ⊢; exact mvH_live a b r k o h
theorem mvH_length (a b : Nat) : ∀ h, (mvH a b h).length = h.length
  | [] => rfl
  | none :: r => by simp [mvH, mvH_length a b r]
  | some _ :: r => by simp [mvH, mvH_length a b r]
theorem mv_cells (a b : Nat) (x : V) : (x.mv a b).cells = mvL a b x.cells := by cases x <;> simp [V.mv, V.cells, mvL]
theorem Pr.mv {w : World} {I : Nat → Prop} {v : Value} {x : V} (a b : Nat) (h : Pr w I v x) : Pr w I v (x.mv a b) := by
  induction h with
  | any v => exact .any v
  | bool b => exact .bool b
  | int k n => exact .int k n
  | str s h => exact .str s h
  | nils => exact .nils
  | lnil a cap => exact .lnil a cap
  | lst b off cap z l u h1 h2 h3 h4 h5 h6 h7 ih => exact .lst b off cap z l u h1 h2 h3 h4 h5 h6 h7
  | agg vs l h1 h2 h3 ih =>
    simp only [V.mv]
    refine .agg vs _ (by rw [mvL_length, h1]) h2 ?_
    intro i v c hv hc
    obtain ⟨x, hx, rfl⟩ := mvL_get a b l i c hc
    exact ih i v x hv hx
  | rp b off l u h1 h2 h3 h4 ih => exact .rp b off l u h1 h2 h3 h4
  | fn f vs l h1 h2 ih =>
    simp only [V.mv]
    refine .fn f vs _ (by rw [mvL_length, h1]) ?_
    intro i v c hv hc
    obtain ⟨x, hx, rfl⟩ := mvL_get a b l i c hc
    exact ih i v x hv hx
  | tup vs l h1 h2 ih =>
    simp only [V.mv]
    refine .tup vs _ (by rw [mvL_length, h1]) ?_
    intro i v c hv hc
    obtain ⟨x, hx, rfl⟩ := mvL_get a b l i c hc
    exact ih i v x hv hx
  | nilp => exact .nilp
  | nili => exact .nili
  | ifi t k n => exact .ifi t k n
  | ifx t v => exact .ifx t v
  | gp g => exact .gp g
  | gsl g n h => exact .gsl g n h
theorem Rep.mv {w : World} {I : Nat → Prop} {bl bl' : Nat → Option BI} {a b : Nat} (hb : ∀ k i, bl k = some i → bl' (mvI a b k) = some i) {v : Value} {x : V} (h : Rep w I bl v x) : Rep w I bl' v (x.mv a b) := by
  induction h with
  | pure v x h => exact .pure v _ (h.mv a b)
  | nsl k base z h => exact .nsl _ base z (hb k _ h)
  | sl k off len cap b base z n e h1 h2 h3 h4 h5 => exact .sl _ off len cap b base z n e (hb k _ h1) h2 h3 h4 h5
  | esl k off a i h => exact .esl _ off a i (hb k _ h)
  | ptr k i j b base z n e h1 h2 => exact .ptr _ i j b base z n e (hb k _ h1) h2
  | it k b base z h1 => exact .it _ b base z (hb k _ h1)
  | agg vs l h1 h2 h3 ih =>
    simp only [V.mv]
    refine .agg vs _ (by rw [mvL_length, h1]) h2 ?_
    intro i v c hv hc
    obtain ⟨x, hx, rfl⟩ := mvL_get a b l i c hc
    exact ih i v x hv hx
  | fn f vs l h1 h2 ih =>
    simp only [V.mv]
    refine .fn f vs _ (by rw [mvL_length, h1]) ?_
    intro i v c hv hc
    obtain ⟨x, hx, rfl⟩ := mvL_get a b l i c hc
    exact ih i v x hv hx
  | tup vs l h1 h2 ih =>
    simp only [V.mv]
    refine .tup vs _ (by rw [mvL_length, h1]) ?_
    intro i v c hv hc
    obtain ⟨x, hx, rfl⟩ := mvL_get a b l i c hc
    exact ih i v x hv hx
theorem ObRep.mv {w : World} {I : Nat → Prop} {bl bl' : Nat → Option BI} {a b : Nat} (hb : ∀ k i, bl k = some i → bl' (mvI a b k) = some i) {k : Nat} {o : Ob} (hh : bl k = none → bl' (mvI a b k) = none) (h : ObRep w I bl k o) : ObRep w I bl' (mvI a b k) (o.mv a b) := by
  cases o with
  | row z l =>
    obtain ⟨bi, h1, h2, h3, h4⟩ := h
    refine ⟨bi, hb k _ h1, h2, fun i x hx => ?_, ?_⟩
    · obtain ⟨y, hy, rfl⟩ := mvL_get a b l i x hx
      rw [mv_cells, mvL_length]; exact h3 i y hy
    · cases hbl : bi.blk with
      | none => simp only [hbl] at h4 ⊢; subst h4; rfl
      | some blk =>
        simp only [hbl] at h4 ⊢
        obtain ⟨cur, e, hg, hsz, hc⟩ := h4
        refine ⟨cur, e, hg, by rw [mvL_length]; exact hsz, ?_⟩
        intro i x j c hx hxc
        obtain ⟨y, hy, rfl⟩ := mvL_get a b l i x hx
        rw [mv_cells] at hxc
        obtain ⟨c', hc', rfl⟩ := mvL_get a b _ j c hxc
        obtain ⟨u, hu, h1', hr⟩ := hc i y j c' hy hc'
        exact ⟨u, hu, h1', hr.mv hb⟩
  | iter s pos =>
    obtain ⟨b', base, z, t, h1, h2, h3, h4⟩ := h
    exact ⟨b', base, z, t, hb k _ h1, h2, h3, h4⟩
  | mp es =>
    obtain ⟨b', base, z, t, h1, h2, h3, h4⟩ := h
    exact ⟨b', base, z, t, hb k _ h1, h2, h3, h4⟩
  | bld T y =>
    obtain ⟨b', p, v, h1, h2, h3, h4, h5⟩ := h
    refine ⟨b', p, v, hb k _ h1, h2, h3, h4, ?_⟩
    have h6 := h5.mv hb
    cases y with
    | none => exact .pure _ _ (.any _)
    | some y => obtain ⟨q, n⟩ := y; cases n <;> exact h6
  | buf U s =>
    obtain ⟨blk, h1, h2⟩ := h
    exact ⟨blk, hb k _ h1, h2⟩
  | hid vs l => exact ⟨hh h.1, by simp [mvL_length, h.2.1], fun i v x hv hx => by
      obtain ⟨y, hy, rfl⟩ := mvL_get a b l i x hx
      exact (h.2.2 i v y hv hy).mv hb⟩
def mvHeap (a b : Nat) (h : List (Option Ob)) : List (Option Ob) := ((mvH a b h).set b ((mvH a b h).getD a none)).set a none
def St.mv (a b : Nat) (σ : St) : St := { env := mvL a b σ.env, heap := mvHeap a b σ.heap }
theorem mvHeap_at {a b : Nat} {h : List (Option Ob)} {id : Nat} (h1 : id ≠ a) (h2 : id ≠ b) : (mvHeap a b h)[id]? = (mvH a b h)[id]? := by
  unfold mvHeap
  rw [List.getElem?_set_ne (Ne.symm h1), List.getElem?_set_ne (Ne.symm h2)]
theorem mvHeap_to {a b : Nat} {h : List (Option Ob)} {o : Ob} (hab : a ≠ b) (hb : b < h.length) (ha : h[a]? = some (some o)) : (mvHeap a b h)[b]? = some (some (o.mv a b)) := by
  unfold mvHeap
  rw [List.getElem?_set_ne hab, List.getElem?_set_self (by rw [mvH_length]; exact hb)]
  simp [List.getD, mvH_live a b h a o ha]
theorem mvHeap_from {a b : Nat} {h : List (Option Ob)} {o : Ob} : (mvHeap a b h)[a]? ≠ some (some o) := by
  unfold mvHeap
  rw [List.getElem?_set]
  simp only [if_true]
  split <;> simp
theorem RP.mv {C : Ctx} {σ : St} {act : Act} {w : World} {I : Nat → Prop} {bl : Nat → Option BI} (hp : RP C σ act w I bl) {a b : Nat} {o : Ob} (hab : a ≠ b) (ha : σ.heap[a]? = some (some o)) (hn : σ.heap[b]? = some none) : Rel C (σ.mv a b) act w := by
  let bl' : Nat → Option BI := fun k => if k = b then bl a else if k = a then none else bl k
  have hlt : b < σ.heap.length := (List.getElem?_eq_some_iff.1 hn).1
  have hbb : ∀ i, bl b = some i → False := fun i h => by
    obtain ⟨o', h'⟩ := hp.heap.live b i h
    rw [hn] at h'
    simp at h'
  have hbn : bl b = none := by
    cases h : bl b with
    | none => rfl
    | some i => exact (hbb i h).elim
  have hb : ∀ k i, bl k = some i → bl' (mvI a b k) = some i := by
    intro k i h
    unfold mvI
    split
    · rename_i e; subst e; simp only [bl', if_true]; exact h
    · rename_i e
      have e2 : k ≠ b := fun e2 => hbb i (e2 ▸ h)
      simp only [bl', if_neg e2, if_neg e]; exact h
  have hinv : ∀ k i, bl' k = some i → k ≠ a ∧ bl (if k = b then a else k) = some i := by
    intro k i h
    by_cases e : k = b
    · subst e
      simp only [bl', if_true] at h ⊢
      exact ⟨Ne.symm hab, h⟩
    · by_cases e2 : k = a
      · subst e2; simp [bl', e] at h
      · simp only [bl', if_neg e, if_neg e2] at h ⊢
        exact ⟨e2, h⟩
  refine RP.rel (I := I) (bl := bl') ⟨hp.defers, ⟨by simp only [St.mv, mvL_length]; exact hp.env.1, fun i v x hv hx => ?_⟩, ⟨?_, ?_, ?_, ?_, hp.heap.imm, hp.heap.kept⟩⟩
  · obtain ⟨y, hy, rfl⟩ := mvL_get a b σ.env i x hx
    exact (hp.env.2 i v y hv hy).mv hb
  · intro k x hx
    simp only [St.mv] at hx
    by_cases e : k = a
    · subst e; exact (mvHeap_from hx).elim
    · by_cases e2 : k = b
      · subst e2
        rw [mvHeap_to hab hlt ha] at hx
        simp only [Option.some.injEq] at hx
        subst hx
        have := (hp.heap.obj a o ha).mv (bl' := bl') hb (fun h => by simp only [mvI, if_true, bl']; exact h)
        simpa [mvI] using this
      · rw [mvHeap_at e e2] at hx
        obtain ⟨o', h', rfl⟩ := mvH_get a b _ k x hx
        have := (hp.heap.obj k o' h').mv (bl' := bl') hb (fun h => by simp only [mvI, if_neg e, bl', if_neg e2]; exact h)
        simpa [mvI, e] using this
  · intro k i h
    obtain ⟨e, h'⟩ := hinv k i h
    obtain ⟨o', ho'⟩ := hp.heap.live _ i h'
    by_cases e2 : k = b
    · subst e2
      exact ⟨_, mvHeap_to hab hlt ha⟩
    · rw [if_neg e2] at ho'
      exact ⟨_, by simp only [St.mv]; rw [mvHeap_at e e2]; exact mvH_live a b _ k o' ho'⟩
  · intro k k' i i' blk h1 h2 h3 h4
    obtain ⟨e1, g1⟩ := hinv k i h1
    obtain ⟨e2, g2⟩ := hinv k' i' h2
    have := hp.heap.apart _ _ i i' blk g1 g2 h3 h4
    split at this <;> split at this
    · simp_all
    · exact absurd this.symm e2
    · exact absurd this e1
    · exact this
  · intro k i blk h1 h2
    exact hp.heap.own _ i blk (hinv k i h1).2 h2
theorem up_mv {C : Ctx} {T : St → Prop} {σ : St} {a b : Nat} {o : Ob} (hab : a ≠ b) (ha : σ.heap[a]? = some (some o)) (hn : σ.heap[b]? = some none) (h : Up C T (σ.mv a b)) : Up C T σ :=
  up_of_rel (fun _ _ hr => let ⟨_, _, hp⟩ := hr.parts; hp.mv hab ha hn) h

def mvU (a b : Nat) (u : List (Nat × V)) : List (Nat × V) := u.map fun p => (p.1, p.2.mv a b)
theorem mv_any (a b : Nat) : V.any.mv a b = .any := by simp [V.mv]
theorem lookU_mv (a b t : Nat) : ∀ u : List (Nat × V), lookU (mvU a b u) t = (lookU u t).mv a b
  | [] => by simp [mvU, lookU, mv_any]
  | (d, x) :: u => by
    have := lookU_mv a b t u
    unfold mvU at this ⊢
    simp only [List.map_cons, lookU]
    split
    · rfl
    · exact this
theorem mvL_is_map (a b : Nat) : ∀ l, mvL a b l = l.map (V.mv a b)
  | [] => by simp [mvL]
  | x :: l => by simp [mvL, mvL_is_map a b l]
theorem env_mv (n a b : Nat) (u : List (Nat × V)) (h h' : List (Option Ob)) : mvL a b (ES.env ⟨n, u, h⟩) = ES.env ⟨n, mvU a b u, h'⟩ := by
  rw [mvL_is_map]
  unfold ES.env
  rw [List.map_map]
  exact List.map_congr_left fun t _ => (lookU_mv a b t u).symm
/-- The object at place a takes the empty place b. -/
theorem up_move {C : Ctx} {K : ES → Prop} (a b : Nat) {n : Nat} {o : Ob} {u : List (Nat × V)} {h : List (Option Ob)} (hab : a ≠ b) (ha : h[a]? = some (some o)) (hn : h[b]? = some none) (hk : UpE C K ⟨n, mvU a b u, mvHeap a b h⟩) : UpE C K ⟨n, u, h⟩ := by
  refine ⟨up_mv (σ := (ES.mk n u h).st) (a := a) (b := b) (o := o) hab ha hn ?_⟩
  show Up C (Ks K) { env := mvL a b (ES.env ⟨n, u, h⟩), heap := mvHeap a b h }
  rw [env_mv n a b u h (mvHeap a b h)]
  exact hk.out
end Go.Proofs.YtbdogoccjcifnaaDoor
