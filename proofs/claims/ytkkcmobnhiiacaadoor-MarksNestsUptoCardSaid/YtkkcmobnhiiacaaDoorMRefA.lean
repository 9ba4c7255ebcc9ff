/- The document's MarksNorm: plain laws. No conditions. -/
import Derived.Test.YtkkcmobnhiiacaaDoorMNorm
set_option linter.unusedSimpArgs false
set_option linter.unusedVariables false
set_option maxRecDepth 100000
namespace Go.Proofs.YtkkcmobnhiiacaaDoor
open Go.RowKit

def findK (L : List (List UInt8)) (m : List UInt8) : Nat → Int
  | 0 => -1
  | i + 1 => if L[i]? = some m then (i : Int) else findK L m i
theorem findK_or (L : List (List UInt8)) (m : List UInt8) : ∀ n, (findK L m n = -1 ∧ ∀ j < n, L[j]? ≠ some m) ∨ ∃ k : Nat, k < n ∧ L[k]? = some m ∧ findK L m n = k
  | 0 => .inl ⟨rfl, fun j hj => absurd hj (Nat.not_lt_zero j)⟩
  | n + 1 => by
    unfold findK
    by_cases h : L[n]? = some m
    · rw [if_pos h]; exact .inr ⟨n, by omega, h, rfl⟩
    · rw [if_neg h]
      rcases findK_or L m n with ⟨h1, h2⟩ | ⟨k, h1, h2, h3⟩
      · refine .inl ⟨h1, fun j hj => ?_⟩
        by_cases e : j = n
        · subst e; exact h
        · exact h2 j (by omega)
      · exact .inr ⟨k, by omega, h2, h3⟩
theorem findK_not {L : List (List UInt8)} {m : List UInt8} (h : ¬ m ∈ L) : findK L m L.length = -1 := by
  rcases findK_or L m L.length with ⟨h1, _⟩ | ⟨k, _, h2, _⟩
  · exact h1
  · exact absurd (List.mem_of_getElem? h2) h
theorem findK_in {L : List (List UInt8)} {m : List UInt8} (h : m ∈ L) : ∃ k : Nat, k < L.length ∧ L[k]? = some m ∧ findK L m L.length = k := by
  rcases findK_or L m L.length with ⟨_, h2⟩ | h
  · obtain ⟨k, hk⟩ := List.mem_iff_getElem?.1 h
    exact absurd hk (h2 k (List.getElem?_eq_some_iff.1 hk).1)
  · exact h
theorem hasM_add {L ms : List (List UInt8)} {m : List UInt8} {k : Nat} (hn : L.Nodup) (hk : L[k]? = some m) (i : Nat) : hasM L (ms ++ [m]) i = (hasM L ms i || decide (i = k)) := by
  unfold hasM
  cases hi : L[i]? with
  | none =>
    have : ¬ i = k := fun e => by subst e; rw [hk] at hi; cases hi
    simp [this]
  | some x =>
    simp only
    by_cases e : i = k
    · subst e
      rw [hk] at hi
      cases hi
      simp
    · have : ¬ x = m := fun h => (nodup_all L).1 hn i k x e hi (by rw [hk, h])
      simp [this, e]
theorem setB_bits (f : Nat → Bool) (k : Nat) (hk : k < 4) : bitOr .i64 ((setB f : Nat) : Int) ((2 ^ k : Nat) : Int) = ((setB fun i => f i || decide (i = k) : Nat) : Int) := by
  have h0 : ∀ k : Fin 4, ∀ a b c d : Bool, bitOr .i64 ((cond a 1 0 + cond b 2 0 + cond c 4 0 + cond d 8 0 : Nat) : Int) ((2 ^ k.val : Nat) : Int) = ((cond (a || decide (0 = k.val)) 1 0 + cond (b || decide (1 = k.val)) 2 0 + cond (c || decide (2 = k.val)) 4 0 + cond (d || decide (3 = k.val)) 8 0 : Nat) : Int) := by decide +kernel
  exact h0 ⟨k, hk⟩ _ _ _ _
theorem setB_bit (f : Nat → Bool) (k : Nat) (hk : k < 4) : bitAnd .i64 ((((setB f : Nat) : Int)).fdiv (2 ^ (min ((k : Int)).toNat IntKind.i64.bits))) 1 = cond (f k) 1 0 := by
  have h0 : ∀ a b c d : Bool, ∀ k : Fin 4, bitAnd .i64 ((((cond a 1 0 + cond b 2 0 + cond c 4 0 + cond d 8 0 : Nat) : Int)).fdiv (2 ^ (min ((k.val : Int)).toNat IntKind.i64.bits))) 1 = cond ([a, b, c, d][k.val]?.getD false) 1 0 := by decide +kernel
  have h1 := h0 (f 0) (f 1) (f 2) (f 3) ⟨k, hk⟩
  refine h1.trans ?_
  match k, hk with
  | 0, _ => rfl
  | 1, _ => rfl
  | 2, _ => rfl
  | 3, _ => rfl
theorem shl_k (k : Nat) (hk : k < 4) : (1 : Int) * 2 ^ (min ((k : Int)).toNat IntKind.i64.bits) = ((2 ^ k : Nat) : Int) := by
  match k, hk with
  | 0, _ => rfl
  | 1, _ => rfl
  | 2, _ => rfl
  | 3, _ => rfl
theorem pow_k (k : Nat) (hk : k < 4) : (2 ^ k : Nat) ≤ 8 := by
  match k, hk with
  | 0, _ => decide
  | 1, _ => decide
  | 2, _ => decide
  | 3, _ => decide
def setI (L ms : List (List UInt8)) : V := .int .i64 ((setB (hasM L ms) : Nat) : Int)
def setsL (L : List (List UInt8)) (l : List Rn) : List V := (flatB l).map fun p => setI L p.2.marks
def txtL (l : List Rn) : List UInt8 := (flatB l).map Prod.fst
theorem flatB_app (a b : List Rn) : flatB (a ++ b) = flatB a ++ flatB b := by simp [flatB]
theorem flatB_one (x : Rn) : flatB [x] = x.text.map fun b => (b, x) := by simp [flatB]
theorem flatB_len (l : List Rn) : (flatB l).length = sumT l := by
  induction l with
  | nil => rfl
  | cons x l ih =>
    have h : flatB (x :: l) = (x.text.map fun b => (b, x)) ++ flatB l := by simp [flatB]
    rw [h, List.length_append, ih, List.length_map]
    simp [sumT]
theorem txtL_len (l : List Rn) : (txtL l).length = sumT l := by unfold txtL; rw [List.length_map, flatB_len]
theorem setsL_len (L : List (List UInt8)) (l : List Rn) : (setsL L l).length = sumT l := by unfold setsL; rw [List.length_map, flatB_len]
theorem txtL_step {l : List Rn} {k : Nat} {x : Rn} (hx : l[k]? = some x) : txtL (l.take (k + 1)) = txtL (l.take k) ++ x.text := by
  unfold txtL
  rw [List.take_add_one, hx, Option.toList_some, flatB_app, flatB_one, List.map_append, List.map_map]
  congr 1
  exact List.map_id x.text
theorem map_rep {α β : Type} (t : List α) (f : α → β) (v : β) (h : ∀ b, f b = v) : t.map f = List.replicate t.length v := by
  induction t with
  | nil => rfl
  | cons b t ih => rw [List.map_cons, ih, h, List.length_cons, List.replicate_succ]
theorem setsL_step (L : List (List UInt8)) {l : List Rn} {k : Nat} {x : Rn} (hx : l[k]? = some x) : setsL L (l.take (k + 1)) = setsL L (l.take k) ++ List.replicate x.text.length (setI L x.marks) := by
  unfold setsL
  rw [List.take_add_one, hx, Option.toList_some, flatB_app, flatB_one, List.map_append, List.map_map]
  congr 1
  exact map_rep x.text _ (setI L x.marks) fun _ => rfl
theorem nr_setsL (L : List (List UInt8)) (l : List Rn) : nrL (setsL L l) := by
  unfold setsL
  induction flatB l with
  | nil => trivial
  | cons x l ih => exact ⟨trivial, ih⟩
theorem nr_repl (L ms : List (List UInt8)) (n : Nat) : nrL (List.replicate n (setI L ms)) := by
  induction n with
  | zero => trivial
  | succ n ih => exact ⟨trivial, ih⟩
theorem kill_app1 (a b : Nat) {A : List V} {v : V} (hA : nrL A) (hv : nrL [v]) : killL b (killL a (List.take A.length (List.drop 0 A) ++ List.take 1 (List.drop 0 [v]))) = A ++ [v] := by
  have e : List.take 1 (List.drop 0 [v]) = [v] := rfl
  have hn : nrL (A ++ [v]) := (nrL_append _ _).2 ⟨hA, hv⟩
  rw [List.drop_zero, List.take_length, e, kill_nrL a hn, kill_nrL b hn]
def outB (L : List (List UInt8)) (l : List Rn) (i : Nat) : List Rn := (((flatB l).take i).map fun p => (⟨[p.1], keepM L p.2.marks⟩ : Rn)).foldl addR []
theorem outB_step {L : List (List UInt8)} {l : List Rn} {i : Nat} {p : UInt8 × Rn} (hp : (flatB l)[i]? = some p) : outB L l (i + 1) = addR (outB L l i) ⟨[p.1], keepM L p.2.marks⟩ := by
  unfold outB
  rw [List.take_add_one, hp, Option.toList_some, List.map_append, List.foldl_append]
  rfl
theorem outB_all (L : List (List UInt8)) (l : List Rn) : outB L l (sumT l) = normL L l := by
  unfold outB
  rw [← flatB_len, List.take_length]
  exact flatB_norm L l []
theorem outB_sum (L : List (List UInt8)) (l : List Rn) : ∀ i ≤ sumT l, sumT (outB L l i) = i ∧ (outB L l i).length ≤ i := by
  intro i
  induction i with
  | zero => exact fun _ => ⟨rfl, Nat.le_refl _⟩
  | succ i ih =>
    intro hi
    obtain ⟨h1, h2⟩ := ih (by omega)
    obtain ⟨p, hp⟩ : ∃ p, (flatB l)[i]? = some p := ⟨_, List.getElem?_eq_getElem (by rw [flatB_len]; omega)⟩
    rw [outB_step hp]
    have := addR_len (outB L l i) ⟨[p.1], keepM L p.2.marks⟩
    rw [sumT_addR]
    exact ⟨by simp; omega, by omega⟩
theorem outB_last {L : List (List UInt8)} {l : List Rn} {i : Nat} {p : UInt8 × Rn} (hp : (flatB l)[i]? = some p) : ∃ o q, outB L l (i + 1) = o ++ [q] ∧ q.marks = keepM L p.2.marks := by
  rw [outB_step hp]
  exact addR_last (outB L l i) (by simp)
theorem set_eq_i {L a b : List (List UInt8)} (h4 : L.length ≤ 4) : (((setB (hasM L a) : Nat) : Int) = ((setB (hasM L b) : Nat) : Int)) ↔ keepM L a = keepM L b := by
  rw [← hasM_keep h4]
  omega
theorem txt_cut {l : List Rn} {i : Nat} {p : UInt8 × Rn} (hp : (flatB l)[i]? = some p) : ((txtL l).take ((i : Int) + 1).toNat).drop ((i : Int)).toNat = [p.1] := by
  have h : (txtL l)[i]? = some p.1 := by unfold txtL; rw [List.getElem?_map, hp]; rfl
  rw [show ((i : Int) + 1).toNat = i + 1 by omega, show ((i : Int)).toNat = i by omega, List.take_add_one, h, Option.toList_some]
  have hl : ((txtL l).take i).length = i := by rw [List.length_take]; have := (List.getElem?_eq_some_iff.1 h).1; omega
  conv => lhs; arg 1; rw [← hl]
  exact List.drop_left
theorem hasM_at {L : List (List UInt8)} {ms : List (List UInt8)} {k : Nat} {m : List UInt8} (hm : L[k]? = some m) : hasM L ms k = decide (m ∈ ms) := by unfold hasM; rw [hm]
theorem hasM_nil (L : List (List UInt8)) : setB (hasM L []) = 0 := by
  have : hasM L [] = fun _ => false := by
    funext k
    unfold hasM
    cases L[k]? <;> simp
  rw [this]
  rfl
/-- What the document's MarksNorm says. -/
def refN (L : List (List UInt8)) (l : List Rn) : V := if marksCode L = 0 then (if 60 < l.length then .tup [.lst [], .int .i64 1] else normV L l) else .tup [.lst [], .int .i64 (marksCode L)]
theorem marks_good {L : List (List UInt8)} (h : marksCode L = 0) : L.length ≤ 4 ∧ L.Nodup := by
  unfold marksCode at h
  split at h
  · cases h
  · split at h
    · cases h
    · split at h
      · exact ⟨by omega, by assumption⟩
      · cases h
end Go.Proofs.YtkkcmobnhiiacaaDoor
