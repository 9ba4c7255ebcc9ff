/- Words counted from the front and from the back: plain lists. No conditions. -/
import Derived.Test.YtcfinfdkmpgaaaaMay
set_option linter.unusedSimpArgs false
set_option linter.unusedVariables false
set_option maxRecDepth 100000
namespace Go.Proofs.Ytcfinfdkmpgaaaa

def dot : List Int → List Int → Int
  | x :: a, y :: b => x * y + dot a b
  | _, _ => 0
def addAt (l : List Int) (t : Nat) (v : Int) : List Int := l.set t (l.getD t 0 + v)
theorem addAt_length (l : List Int) (t : Nat) (v : Int) : (addAt l t v).length = l.length := by simp [addAt]
theorem dot_add : ∀ (l e : List Int) (t : Nat) (v : Int), t < l.length → l.length = e.length → dot (addAt l t v) e = dot l e + v * e.getD t 0
  | [], e, t, v, h, _ => by simp at h
  | x :: l, [], t, v, _, h => by simp at h
  | x :: l, y :: e, 0, v, _, _ => by simp only [addAt, List.set_cons_zero, dot, List.getD_cons_zero, Int.add_mul]; omega
  | x :: l, y :: e, t + 1, v, h, hl => by
    have := dot_add l e t v (by simpa using h) (by simpa using hl)
    simp only [addAt, List.set_cons_succ, dot, List.getD_cons_succ] at this ⊢
    omega
theorem addAt_nonneg {l : List Int} {t : Nat} {v : Int} (h : ∀ x ∈ l, 0 ≤ x) (hv : 0 ≤ v) : ∀ x ∈ addAt l t v, 0 ≤ x := by
  intro x hx
  rcases List.mem_or_eq_of_mem_set hx with hx | rfl
  · exact h x hx
  · have : 0 ≤ l.getD t 0 := by
      rw [List.getD_eq_getElem?_getD]
      cases hg : l[t]? with
      | none => simp
      | some y => simpa using h y (List.mem_of_getElem? hg)
    omega
theorem dot_zero (n : Nat) : ∀ e : List Int, dot (List.replicate n 0) e = 0 := by
  induction n with
  | zero => intro e; simp [dot]
  | succ n ih => intro e; cases e with
    | nil => simp [List.replicate_succ, dot]
    | cons y e => simp [List.replicate_succ, dot, ih e]
/-- With ones: the sum; no entry is greater. -/
theorem entry_le : ∀ (l : List Int) (t : Nat), (∀ x ∈ l, 0 ≤ x) → l.getD t 0 ≤ dot l (List.replicate l.length 1) ∧ 0 ≤ dot l (List.replicate l.length 1) ∧ 0 ≤ l.getD t 0
  | [], t, _ => by simp [dot]
  | x :: l, t, h => by
    have hx := h x (List.mem_cons_self ..)
    have ih := fun t => entry_le l t (fun y hy => h y (List.mem_cons_of_mem _ hy))
    simp only [List.length_cons, List.replicate_succ, dot, Int.mul_one]
    cases t with
    | zero => have := ih 0; simp only [List.getD_cons_zero]; omega
    | succ t => have := ih t; simp only [List.getD_cons_succ]; omega
/-! ### A round from the front -/
def rowE (e : List Int) (row : List Int) : Int := (row.map fun to => if 0 ≤ to then e.getD to.toNat 0 else 0).sum
def partS (T : List (List Int)) (W e : List Int) (i : Nat) : Int := dot (W.take i) ((T.take i).map (rowE e))
theorem dot_append : ∀ (a c b d : List Int), a.length = b.length → dot (a ++ c) (b ++ d) = dot a b + dot c d
  | [], c, [], d, _ => by simp [dot]
  | x :: a, c, y :: b, d, h => by
    have := dot_append a c b d (by simpa using h)
    simp only [List.cons_append, dot]
    omega
  | [], _, _ :: _, _, h => by simp at h
  | _ :: _, _, [], _, h => by simp at h
theorem partS_step {T : List (List Int)} {W e : List Int} {i : Nat} {w : Int} {row : List Int} (hw : W[i]? = some w) (hr : T[i]? = some row) : partS T W e (i + 1) = partS T W e i + w * rowE e row := by
  have h1 := (List.getElem?_eq_some_iff.1 hw).1
  have h2 := (List.getElem?_eq_some_iff.1 hr).1
  unfold partS
  rw [List.take_add_one, List.take_add_one, hw, hr, List.map_append, dot_append _ _ _ _ (by simp; omega)]
  simp [dot]
theorem partS_all {T : List (List Int)} {W e : List Int} {n : Nat} (hW : W.length = n) (hT : T.length = n) : partS T W e n = dot W (T.map (rowE e)) := by
  unfold partS
  rw [List.take_of_length_le (by omega), List.take_of_length_le (by omega)]
theorem rowE_step {e row : List Int} {j : Nat} {x : Int} (hx : row[j]? = some x) : rowE e (row.take (j + 1)) = rowE e (row.take j) + if 0 ≤ x then e.getD x.toNat 0 else 0 := by
  unfold rowE
  rw [List.take_add_one, hx, List.map_append, List.sum_append]
  simp
theorem ones_get (n t : Nat) : 0 ≤ (List.replicate n (1 : Int)).getD t 0 ∧ (List.replicate n (1 : Int)).getD t 0 ≤ 1 := by
  rw [List.getD_eq_getElem?_getD, List.getElem?_replicate]
  split <;> simp
theorem rowE_ones (n : Nat) : ∀ row : List Int, 0 ≤ rowE (List.replicate n 1) row ∧ rowE (List.replicate n 1) row ≤ row.length
  | [] => by simp [rowE]
  | x :: row => by
    have ih := rowE_ones n row
    have h := ones_get n x.toNat
    unfold rowE at ih ⊢
    simp only [List.map_cons, List.sum_cons, List.length_cons]
    split <;> omega
/-- What the round has gathered at most. -/
theorem partS_ones {n : Nat} : ∀ (T : List (List Int)) (W : List Int) (i : Nat), (∀ r ∈ T, r.length = 8) → (∀ x ∈ W, 0 ≤ x) → T.length = W.length → partS T W (List.replicate n 1) i ≤ 8 * dot W (List.replicate W.length 1)
  | _, [], i, _, _, _ => by simp [partS, dot]
  | [], w :: W, i, _, _, h => by simp at h
  | r :: T, w :: W, i, h8, hp, hl => by
    cases i with
    | zero =>
      have := (entry_le (w :: W) 0 hp).2.1
      simp [partS, dot] at this ⊢
      omega
    | succ i =>
      have ih := partS_ones (n := n) T W i (fun r hr => h8 r (List.mem_cons_of_mem _ hr)) (fun x hx => hp x (List.mem_cons_of_mem _ hx)) (by simpa using hl)
      have hw := hp w (List.mem_cons_self ..)
      have h8r := h8 r (List.mem_cons_self ..)
      have hr := (rowE_ones n r).2
      rw [h8r] at hr
      have hm : w * rowE (List.replicate n 1) r ≤ w * 8 := Int.mul_le_mul_of_nonneg_left hr hw
      unfold partS at ih ⊢
      simp only [List.take_succ_cons, List.map_cons, dot, List.length_cons, List.replicate_succ, Int.mul_one]
      omega
/-! ### The final states' sum -/
def finS (F : List Bool) (W : List Int) (i : Nat) : Int := dot (W.take i) ((F.take i).map fun b => if b then 1 else 0)
theorem finS_step {F : List Bool} {W : List Int} {i : Nat} {b : Bool} {w : Int} (hb : F[i]? = some b) (hw : W[i]? = some w) : finS F W (i + 1) = finS F W i + if b then w else 0 := by
  have h1 := (List.getElem?_eq_some_iff.1 hw).1
  have h2 := (List.getElem?_eq_some_iff.1 hb).1
  unfold finS
  rw [List.take_add_one, List.take_add_one, hw, hb, List.map_append, dot_append _ _ _ _ (by simp; omega)]
  cases b <;> simp [dot]
theorem finS_le : ∀ (F : List Bool) (W : List Int) (i : Nat), (∀ x ∈ W, 0 ≤ x) → 0 ≤ finS F W i ∧ finS F W i ≤ dot W (List.replicate W.length 1)
  | _, [], i, _ => by simp [finS, dot]
  | [], w :: W, i, hp => by
    have := (entry_le (w :: W) 0 hp).2.1
    simp only [finS, List.take_nil, List.map_nil]
    cases i <;> simp [dot] at this ⊢ <;> exact this
  | b :: F, w :: W, i, hp => by
    cases i with
    | zero =>
      have := (entry_le (w :: W) 0 hp).2.1
      simp [finS, dot] at this ⊢
      exact this
    | succ i =>
      have ih := finS_le F W i (fun x hx => hp x (List.mem_cons_of_mem _ hx))
      have hw := hp w (List.mem_cons_self ..)
      simp only [finS, List.take_succ_cons, List.map_cons, dot, List.length_cons, List.replicate_succ, Int.mul_one] at ih ⊢
      cases b <;> simp [List.map_take] at ih ⊢ <;> omega
theorem finS_all {F : List Bool} {W : List Int} (h : W.length = F.length) : finS F W F.length = dot W (F.map fun b => if b then 1 else 0) := by
  unfold finS
  rw [List.take_of_length_le (by omega), List.take_of_length_le (by omega)]
end Go.Proofs.Ytcfinfdkmpgaaaa
