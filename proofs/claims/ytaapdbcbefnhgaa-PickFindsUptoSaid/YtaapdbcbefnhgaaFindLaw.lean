/- Elements that are looked for: plain laws. No conditions. -/
import Derived.Test.YtaapdbcbefnhgaaPick
import Derived.Test.YtaapdbcbefnhgaaData
set_option linter.unusedSimpArgs false
set_option linter.unusedVariables false
set_option maxRecDepth 100000
namespace Go.Proofs.Ytaapdbcbefnhgaa
open Go.RowKit

def hasB (p : Pk) (n : Nd) : Bool := (decide (p.1 = []) || decide (p.1 = n.name)) && (decide (p.2.1 = []) || n.attrs.any fun a => decide (a.name = p.2.1))
/-- Do the first k picks mean the last one of a chain? -/
def mB (P : List Pk) : Nat → List Nd → Bool
  | 0, _ => false
  | k + 1, ch => match P[k]?, ch.getLast? with
    | some p, some n => hasB p n && (decide (k = 0) || (if p.2.2 = true then (List.range (ch.length - 1)).any fun j => mB P k (ch.take (j + 1)) else mB P k ch.dropLast))
    | _, _ => false
theorem mB_nil (P : List Pk) (k : Nat) : mB P k [] = false := by
  cases k with
  | zero => rfl
  | succ k => unfold mB; cases P[k]? <;> rfl
theorem mB_step {P : List Pk} {k : Nat} {p : Pk} (hp : P[k]? = some p) (ch : List Nd) (n : Nd) :
    mB P (k + 1) (ch ++ [n]) = (hasB p n && (decide (k = 0) || (if p.2.2 = true then (List.range ch.length).any fun j => mB P k (ch.take (j + 1)) else mB P k ch))) := by
  rw [mB, hp, List.getLast?_concat]
  simp only
  congr 2
  split
  · rw [List.length_append, List.length_singleton, Nat.add_sub_cancel]
    rw [Bool.eq_iff_iff, List.any_eq_true, List.any_eq_true]
    constructor
    · rintro ⟨j, hj, h⟩
      rw [List.mem_range] at hj
      rw [List.take_append_of_le_length (by omega)] at h
      exact ⟨j, List.mem_range.2 hj, h⟩
    · rintro ⟨j, hj, h⟩
      rw [List.mem_range] at hj
      refine ⟨j, List.mem_range.2 hj, ?_⟩
      rw [List.take_append_of_le_length (by omega)]
      exact h
  · rw [List.dropLast_concat]
/-- Those that the chain's elements end: the last one; any one. -/
def rightB (P : List Pk) (ch : List Nd) (k : Nat) : Bool := mB P (k + 1) ch
def withB (P : List Pk) (ch : List Nd) (k : Nat) : Bool := (List.range ch.length).any fun j => mB P (k + 1) (ch.take (j + 1))
theorem with_step (P : List Pk) (ch : List Nd) (n : Nd) (k : Nat) : withB P (ch ++ [n]) k = (withB P ch k || rightB P (ch ++ [n]) k) := by
  unfold withB rightB
  rw [List.length_append, List.length_singleton, List.range_succ, List.any_append]
  congr 1
  · rw [Bool.eq_iff_iff, List.any_eq_true, List.any_eq_true]
    constructor
    · rintro ⟨j, hj, h⟩
      rw [List.mem_range] at hj
      rw [List.take_append_of_le_length (by omega)] at h
      exact ⟨j, List.mem_range.2 hj, h⟩
    · rintro ⟨j, hj, h⟩
      rw [List.mem_range] at hj
      refine ⟨j, List.mem_range.2 hj, ?_⟩
      rw [List.take_append_of_le_length (by omega)]
      exact h
  · rw [List.any_cons, List.any_nil, Bool.or_false, List.take_of_length_le (by simp)]
def bits (f : Nat → Bool) (m : Nat) : List Bool := (List.range m).map f
theorem bits_len (f : Nat → Bool) (m : Nat) : (bits f m).length = m := by simp [bits]
theorem bits_get {f : Nat → Bool} {m k : Nat} (h : k < m) : (bits f m)[k]? = some (f k) := by simp [bits, h]
theorem bits_v_get {f : Nat → Bool} {m k : Nat} (h : k < m) : ((bits f m).map V.bool)[k]? = some (.bool (f k)) := by rw [List.getElem?_map, bits_get h]; rfl
theorem bits_set (f g : Nat → Bool) (m k : Nat) : (bits (fun j => if j < k then f j else g j) m).set k (f k) = bits (fun j => if j < k + 1 then f j else g j) m := by
  apply List.ext_getElem?
  intro i
  by_cases h : i < m
  · by_cases e : i = k
    · subst e
      rw [List.getElem?_set_self (by rw [bits_len]; exact h), bits_get h, if_pos (by omega)]
    · rw [List.getElem?_set_ne (Ne.symm e), bits_get h, bits_get h]
      by_cases h2 : i < k
      · rw [if_pos h2, if_pos (by omega)]
      · rw [if_neg h2, if_neg (by omega)]
  · rw [List.getElem?_eq_none (by rw [List.length_set, bits_len]; omega), List.getElem?_eq_none (by rw [bits_len]; omega)]
theorem bits_zero (f g : Nat → Bool) (m : Nat) : bits (fun j => if j < 0 then f j else g j) m = bits g m := by simp [bits]
theorem bits_full (f g : Nat → Bool) (m : Nat) : bits (fun j => if j < m then f j else g j) m = bits f m := by
  unfold bits
  apply List.map_congr_left
  intro j hj
  rw [List.mem_range] at hj
  rw [if_pos hj]
theorem bits_false (m : Nat) : bits (fun _ => false) m = List.replicate m false := by
  induction m with
  | zero => rfl
  | succ m ih => unfold bits at ih ⊢; rw [List.range_succ, List.map_append, ih, List.replicate_succ']; rfl
mutual
/-- What is found within a node; within nodes, from a place on. -/
def fndS (P : List Pk) (ch : List Nd) (path : List Int) : Nd → List (List Int)
  | .mk _ _ _ ps => fndL P ch path 0 ps
def fndL (P : List Pk) (ch : List Nd) (path : List Int) (k : Nat) : List Nd → List (List Int)
  | [] => []
  | x :: xs => (if x.name = [] then [] else (if mB P P.length (ch ++ [x]) = true then [path ++ [(k : Int)]] else []) ++ fndS P (ch ++ [x]) (path ++ [(k : Int)]) x) ++ fndL P ch path (k + 1) xs
end
theorem fndL_step {P : List Pk} {ch : List Nd} {path : List Int} {l : List Nd} {k : Nat} {x : Nd} (hx : l[k]? = some x) :
    fndL P ch path k (l.drop k) = (if x.name = [] then [] else (if mB P P.length (ch ++ [x]) = true then [path ++ [(k : Int)]] else []) ++ fndS P (ch ++ [x]) (path ++ [(k : Int)]) x) ++ fndL P ch path (k + 1) (l.drop (k + 1)) := by
  obtain ⟨hlt, rfl⟩ := List.getElem?_eq_some_iff.1 hx
  rw [List.drop_eq_getElem_cons hlt, fndL]
mutual
theorem fndS_sz (P : List Pk) : ∀ (x : Nd) (ch : List Nd) (path : List Int), (fndS P ch path x).length + 1 ≤ szN x
  | .mk n a t ps, ch, path => by
    have h := fndL_sz P ps ch path 0
    have e : szN (.mk n a t ps) = (n.length + 1) + ((a.map szA).sum + 1) + (t.length + 1) + (szL ps + 1) + 1 := by simp only [szN, szS]
    rw [fndS, e]
    omega
theorem fndL_sz (P : List Pk) : ∀ (l : List Nd) (ch : List Nd) (path : List Int) (k : Nat), (fndL P ch path k l).length ≤ szL l
  | [], ch, path, k => by rw [fndL]; simp
  | x :: xs, ch, path, k => by
    have h1 := fndS_sz P x (ch ++ [x]) (path ++ [(k : Int)])
    have h2 := fndL_sz P xs ch path (k + 1)
    have e : szL (x :: xs) = szN x + szL xs := by simp [szL_sum]
    rw [fndL, e, List.length_append]
    split
    · simp; omega
    · rw [List.length_append]
      split
      · simp; omega
      · simp; omega
end
end Go.Proofs.Ytaapdbcbefnhgaa
