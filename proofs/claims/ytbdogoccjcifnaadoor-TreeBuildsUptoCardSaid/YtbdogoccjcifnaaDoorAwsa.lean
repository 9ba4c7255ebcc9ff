/- Abstract walk: regions that draw their order, walked in an order of one's own choice. No conditions. -/
import Derived.Test.YtbdogoccjcifnaaDoorAws
set_option linter.unusedSimpArgs false
set_option linter.unusedVariables false
set_option maxRecDepth 100000
namespace Go.Proofs.YtbdogoccjcifnaaDoor
open Go.RowKit

/-! ### A place that is kept free -/
def fillO (x : Option Ob) : Option Ob := match x with
  | none => some (.hid [] [])
  | some o => some o
def padTo (p : Nat) (h : List (Option Ob)) : List (Option Ob) := (h.take p).map fillO ++ h.drop p
theorem fillO_some (x : Option Ob) : ∃ o, fillO x = some o := by cases x <;> exact ⟨_, rfl⟩
theorem fresh_app : ∀ (A B : List (Option Ob)), (∀ x ∈ A, ∃ o, x = some o) → freshIn (A ++ none :: B) = A.length
  | [], B, _ => rfl
  | x :: A, B, h => by
    obtain ⟨o, rfl⟩ := h x (by simp)
    simp only [List.cons_append, freshIn, List.length_cons]
    rw [fresh_app A B (fun y hy => h y (by simp [hy]))]
theorem put_app (o : Ob) : ∀ (A B : List (Option Ob)), (∀ x ∈ A, ∃ o, x = some o) → putOb (A ++ none :: B) o = A ++ some o :: B
  | [], B, _ => rfl
  | x :: A, B, h => by
    obtain ⟨o', rfl⟩ := h x (by simp)
    simp only [List.cons_append, putOb]
    rw [put_app o A B (fun y hy => h y (by simp [hy]))]
theorem pad_split {p : Nat} {h : List (Option Ob)} (hp : h[p]? = some none) : padTo p h = (h.take p).map fillO ++ none :: h.drop (p + 1) := by
  obtain ⟨hlt, he⟩ := List.getElem?_eq_some_iff.1 hp
  unfold padTo
  rw [List.drop_eq_getElem_cons hlt, he]
theorem fill_all (l : List (Option Ob)) : ∀ x ∈ l.map fillO, ∃ o, x = some o := fun x hx => by
  obtain ⟨y, _, rfl⟩ := List.mem_map.1 hx
  exact fillO_some y
theorem fresh_pad {p : Nat} {h : List (Option Ob)} (hp : h[p]? = some none) : freshIn (padTo p h) = p := by
  rw [pad_split hp, fresh_app _ _ (fill_all _), List.length_map, List.length_take]
  have := (List.getElem?_eq_some_iff.1 hp).1
  omega
theorem put_pad {p : Nat} {h : List (Option Ob)} (hp : h[p]? = some none) (o : Ob) : putOb (padTo p h) o = (h.take p).map fillO ++ some o :: h.drop (p + 1) := by
  rw [pad_split hp, put_app o _ _ (fill_all _)]
theorem pad_get (p : Nat) (h : List (Option Ob)) (k : Nat) : (padTo p h)[k]? = if k < p then (h[k]?).map fillO else h[k]? := by
  unfold padTo
  by_cases hk : k < p
  · rw [if_pos hk]
    by_cases hl : k < h.length
    · rw [List.getElem?_append_left (by simp; omega), List.getElem?_map, List.getElem?_take, if_pos hk]
    · rw [List.getElem?_append_right (by simp; omega), List.getElem?_drop, List.length_map, List.length_take, Nat.min_eq_right (by omega)]
      rw [List.getElem?_eq_none (by omega), List.getElem?_eq_none (l := h) (by omega)]
      rfl
  · rw [if_neg hk]
    by_cases hl : p ≤ h.length
    · rw [List.getElem?_append_right (by simp; omega), List.getElem?_drop, List.length_map, List.length_take, Nat.min_eq_left hl]
      congr 1; omega
    · rw [List.getElem?_append_right (by simp; omega), List.getElem?_eq_none (by simp; omega), List.getElem?_eq_none (by omega)]
theorem putpad_get {p : Nat} {h : List (Option Ob)} (hp : h[p]? = some none) (o : Ob) (k : Nat) : (putOb (padTo p h) o)[k]? = if k = p then some (some o) else (padTo p h)[k]? := by
  by_cases hk : k = p
  · rw [if_pos hk, hk]
    have := putOb_fresh (padTo p h) o
    rwa [fresh_pad hp] at this
  · rw [if_neg hk]
    exact putOb_other _ _ _ (by rw [fresh_pad hp]; exact hk)

theorem relx_heap {C : Ctx} {env : List V} {h1 h2 : List (Option Ob)} {xs : List V} {a : Act} {w : World} {vs : List Value} (hr : RelX C ⟨env, h1⟩ xs a w vs)
    (h21 : ∀ (k : Nat) (x : Ob), h2[k]? = some (some x) → h1[k]? = some (some x) ∨ (x = .hid [] [] ∧ ∀ y, h1[k]? ≠ some (some y))) (h12 : ∀ (k : Nat) (x : Ob), h1[k]? = some (some x) → h2[k]? = some (some x) ∨ x = .hid [] []) : RelX C ⟨env, h2⟩ xs a w vs := by
  obtain ⟨I, bl, h0, he, hx, hh⟩ := hr
  refine ⟨I, bl, h0, he, hx, ⟨?_, ?_, hh.apart, hh.own, hh.imm, hh.kept⟩⟩
  · intro id o ho
    rcases h21 id o ho with h | ⟨rfl, h⟩
    · exact hh.obj id o h
    · refine ⟨?_, rfl, fun i v x hv => by simp at hv⟩
      cases hb : bl id with
      | none => rfl
      | some i =>
        obtain ⟨y, hy⟩ := hh.live id i hb
        exact absurd hy (h y)
  · intro id i hi
    obtain ⟨o, ho⟩ := hh.live id i hi
    rcases h12 id o ho with h | rfl
    · exact ⟨o, h⟩
    · have := (hh.obj id _ ho).1
      rw [this] at hi
      cases hi
theorem rel_pad {C : Ctx} {env : List V} {h : List (Option Ob)} {a : Act} {w : World} (p : Nat) (hr : Rel C ⟨env, h⟩ a w) : Rel C ⟨env, padTo p h⟩ a w := by
  refine relx_heap hr (fun k x hx => ?_) (fun k x hx => ?_)
  · rw [pad_get] at hx
    split at hx
    · cases hk : h[k]? with
      | none => rw [hk] at hx; cases hx
      | some y =>
        rw [hk] at hx
        simp only [Option.map_some, Option.some.injEq] at hx
        cases y with
        | none =>
          simp only [fillO, Option.some.injEq] at hx
          exact .inr ⟨hx.symm, fun y => by simp⟩
        | some o => simp only [fillO, Option.some.injEq] at hx; subst hx; exact .inl rfl
    · exact .inl hx
  · rw [pad_get]
    split
    · rw [hx]; exact .inl rfl
    · exact .inl hx
theorem relx_unpad {C : Ctx} {env : List V} {h : List (Option Ob)} {xs : List V} {a : Act} {w : World} {vs : List Value} {p : Nat} {o : Ob} (hp : h[p]? = some none) (hr : RelX C ⟨env, putOb (padTo p h) o⟩ xs a w vs) : RelX C ⟨env, h.set p (some o)⟩ xs a w vs := by
  have hlt := (List.getElem?_eq_some_iff.1 hp).1
  refine relx_heap hr (fun k x hx => .inl ?_) (fun k x hx => ?_)
  · rw [putpad_get hp]
    by_cases hk : k = p
    · subst hk
      rw [if_pos rfl]
      simpa [hlt] using hx
    · rw [if_neg hk]
      rw [List.getElem?_set_ne (Ne.symm hk)] at hx
      rw [pad_get]
      split
      · rw [hx]; rfl
      · exact hx
  · rw [putpad_get hp] at hx
    by_cases hk : k = p
    · subst hk
      rw [if_pos rfl] at hx
      exact .inl (by simpa [hlt] using hx)
    · rw [if_neg hk, pad_get] at hx
      rw [List.getElem?_set_ne (Ne.symm hk)]
      split at hx
      · cases hk : h[k]? with
        | none => rw [hk] at hx; cases hx
        | some y =>
          rw [hk] at hx
          simp only [Option.map_some, Option.some.injEq] at hx
          cases y with
          | none =>
            simp only [fillO, Option.some.injEq] at hx
            exact .inr hx.symm
          | some o => simp only [fillO, Option.some.injEq] at hx; subst hx; exact .inl rfl
      · exact .inl hx
theorem row_pad (env env' : List V) (p : Nat) (h : List (Option Ob)) (id : Nat) : St.row ⟨env, padTo p h⟩ id = St.row ⟨env', h⟩ id := by
  unfold St.row
  simp only
  rw [pad_get]
  by_cases hp : id < p
  · rw [if_pos hp]
    cases hk : h[id]? with
    | none => rfl
    | some y => cases y <;> rfl
  · rw [if_neg hp]

/-! ### Operations that make one new object and look at nothing else -/
section mk
variable {C : Ctx}
def MkOk (o : Oper) (s : St) : Prop := match o.op with
  | .alloc _ => True
  | .makeSlice _ _ _ => True
  | .buildSlice _ _ _ => True
  | .call c => match c.callee, c.args.toList, c.argTypes.toList with
    | .builtin .append, [s0, _], [_, _] => s.val s0 = .nils
    | _, _, _ => False
  | _ => False
/-- Operations that look at no row. -/
def blindOp (op : Op) : Bool := match op with
  | .alloc _ => true
  | .makeSlice _ _ _ => true
  | .buildSlice _ _ _ => true
  | .call c => (match c.callee with | .value _ => true | _ => false)
  | _ => false
theorem srck_ext {s : St} {z : Nat} {x : V} {k : List V → Prop} (h : SrcK s z x k) : ∃ els, k els ∧ ∀ s2 : St, RowExt s s2 → ∀ k2 : List V → Prop, k2 els → SrcK s2 z x k2 := by
  unfold SrcK at h
  split at h
  · rename_i l
    exact ⟨l, h.2, fun s2 he k2 hk => ⟨h.1, hk⟩⟩
  · exact ⟨[], h, fun s2 he k2 hk => hk⟩
  · rename_i id off n
    split at h
    · rename_i z' els hrow
      refine ⟨_, h.2.2, fun s2 he k2 hk => ?_⟩
      unfold SrcK
      simp only [he _ _ _ hrow]
      exact ⟨h.1, h.2.1, hk⟩
    · exact h.elim
  · rename_i b
    exact ⟨_, h.2, fun s2 he k2 hk => ⟨h.1, hk⟩⟩
  · exact h.elim
theorem step_mk {o : Oper} {s : St} {K : V → St → Prop} (hm : MkOk o s) (h : Step C o s K) : ∃ r ob, K r { s with heap := putOb s.heap ob } ∧
    ∀ (K2 : V → St → Prop) (s2 : St), (∀ x ∈ o.op.operands.toList, s2.val x = s.val x) → (RowExt s s2 ∨ blindOp o.op = true) → freshIn s2.heap = freshIn s.heap → K2 r { s2 with heap := putOb s2.heap ob } → Step C o s2 K2 ∧ MkOk o s2 := by
  unfold MkOk at hm
  split at hm
  · rename_i t ho
    unfold Step at h
    simp only [ho] at h
    unfold AllocQ at h
    split at h
    · rename_i x hx
      refine ⟨_, _, h, fun K2 s2 hv he hf k => ⟨?_, by simp [MkOk, ho]⟩⟩
      unfold Step
      simp only [ho]
      unfold AllocQ
      simp only [hx]
      rw [hf]
      exact k
    · exact h.elim
  · rename_i t l c ho
    unfold Step at h
    simp only [ho] at h
    unfold MakeK at h
    split at h
    · rename_i k1 n k2 m hl hc
      split at h
      · rename_i e z hei
        split at h
        · rename_i x hx
          obtain ⟨a1, a2, a3, a4, a5, a6, a7⟩ := h
          refine ⟨_, _, a7, fun K2 s2 hv he hf k => ⟨?_, by simp [MkOk, ho]⟩⟩
          unfold Step
          simp only [ho]
          unfold MakeK
          rw [hv l (by simp [ho, Op.operands]), hv c (by simp [ho, Op.operands]), hl, hc]
          simp only [hei, hx]
          rw [hf]
          exact ⟨a1, a2, a3, a4, a5, a6, k⟩
        · exact h.elim
      · exact h.elim
    · exact h.elim
  · rename_i t n ps ho
    unfold Step at h
    simp only [ho] at h
    unfold BSliceK at h
    split at h
    · rename_i e z hei
      obtain ⟨a1, a2, a3, a4, a5⟩ := h
      refine ⟨_, _, a5, fun K2 s2 hv he hf k => ⟨?_, by simp [MkOk, ho]⟩⟩
      unfold Step
      simp only [ho]
      have e1 : ps.toList.map (fun p => (p.1, s2.val p.2)) = ps.toList.map (fun p => (p.1, s.val p.2)) := List.map_congr_left fun p hp => by
        rw [hv p.2 (by rw [ho]; simp [Op.operands]; exact ⟨p.1, by simpa using hp⟩)]
      rw [e1]
      unfold BSliceK
      simp only [hei]
      rw [hf]
      exact ⟨a1, a2, a3, a4, k⟩
    · exact h.elim
  · rename_i c ho
    obtain ⟨callee, args, ts⟩ := c
    simp only at hm
    split at hm
    · rename_i s0 x t t' h2 h3
      unfold Step at h
      simp only [ho, h2, h3] at h
      unfold AppK at h
      split at h
      · rename_i e z hei
        obtain ⟨a1, a2, a3⟩ := h
        have e0 : s0 ∈ o.op.operands.toList := by simp [ho, Op.operands, Call.operands, arr2 h2]
        have e1 : x ∈ o.op.operands.toList := by simp [ho, Op.operands, Call.operands, arr2 h2]
        obtain ⟨els, b1, c2⟩ := srck_ext a3
        rw [hm] at b1
        unfold AppTo at b1
        simp only at b1
        refine ⟨_, _, b1.2.2, fun K2 s2 hv he hf k => ⟨?_, ?_⟩⟩
        · have he : RowExt s s2 := he.elim id fun h => by rw [ho] at h; cases h
          unfold Step
          simp only [ho, h2, h3]
          unfold AppK
          simp only [hei]
          refine ⟨a1, a2, ?_⟩
          rw [hv s0 e0, hv x e1, hm]
          refine c2 s2 he _ ?_
          unfold AppTo
          simp only
          rw [hf]
          exact ⟨b1.1, b1.2.1, k⟩
        · simp only [MkOk, ho, h2, h3]
          rw [hv s0 e0]
          exact hm
      · exact h.elim
    · exact hm.elim
  · exact hm.elim
/-- A call that gives a new object, whatever the heap holds. -/
def FreshC (C : Ctx) (f : FuncId) (xs : List V) (m z : Nat) (els : List V) : Prop := ∀ s : St, ACall C f xs (fun r s' => r = .sl (freshIn s.heap) 0 m ∧ s' = ⟨s.env, putOb s.heap (.row z els)⟩) s
def MkC (C : Ctx) (o : Oper) (r : V) (x : Ob) (p : Nat) (s : St) : Prop :=
  ∃ fop args ts f caps m z els, o.op = .call { callee := .value fop, args := args, argTypes := ts } ∧ s.val fop = .fn f caps ∧ hasBody C.P f = true ∧ FreshC C f (args.toList.map s.val ++ caps) m z els ∧ r = .sl p 0 m ∧ x = .row z els
theorem mkc_blind {o : Oper} {r : V} {x : Ob} {p : Nat} {s : St} (h : MkC C o r x p s) : blindOp o.op = true := by
  obtain ⟨fop, args, ts, f, caps, m, z, els, ho, _⟩ := h
  rw [ho]; rfl
theorem mkc_step {o : Oper} {r : V} {x : Ob} {p : Nat} {s : St} (h : MkC C o r x p s) (hp : s.heap[p]? = some none) : Step C o ⟨s.env, padTo p s.heap⟩ (fun r' s' => r' = r ∧ s' = ⟨s.env, putOb (padTo p s.heap) x⟩) := by
  obtain ⟨fop, args, ts, f, caps, m, z, els, ho, hf, hb, hc, rfl, rfl⟩ := h
  unfold Step
  simp only [ho]
  refine up_intro ?_
  have hv : ∀ y, St.val ⟨s.env, padTo p s.heap⟩ y = s.val y := fun y => by cases y <;> rfl
  unfold CallAt
  rw [hv fop, hf]
  refine ⟨hb, ?_⟩
  have := hc ⟨s.env, padTo p s.heap⟩
  rw [show St.val ⟨s.env, padTo p s.heap⟩ = s.val from funext hv]
  rw [show freshIn (St.heap ⟨s.env, padTo p s.heap⟩) = p from fresh_pad hp] at this
  exact this
theorem mkc_move {o : Oper} {r : V} {x : Ob} {p : Nat} {s s2 : St} (h : MkC C o r x p s) (hv : ∀ y ∈ o.op.operands.toList, s2.val y = s.val y) : MkC C o r x p s2 := by
  obtain ⟨fop, args, ts, f, caps, m, z, els, ho, hf, hb, hc, rfl, rfl⟩ := h
  have e0 : s2.val fop = s.val fop := hv fop (by simp [ho, Op.operands, Call.operands])
  have e1 : args.toList.map s2.val = args.toList.map s.val := List.map_congr_left fun y hy => hv y (by simp [ho, Op.operands, Call.operands]; exact .inr (by simpa using hy))
  exact ⟨fop, args, ts, f, caps, m, z, els, ho, by rw [e0]; exact hf, hb, by rw [e1]; exact hc, rfl, rfl⟩
end mk
end Go.Proofs.YtbdogoccjcifnaaDoor
