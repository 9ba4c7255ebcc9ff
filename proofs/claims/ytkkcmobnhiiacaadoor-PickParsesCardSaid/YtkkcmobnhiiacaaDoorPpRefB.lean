/- The document's strict reader, by places. No conditions. -/
import Derived.Test.YtkkcmobnhiiacaaDoorPpRef
set_option linter.unusedSimpArgs false
set_option linter.unusedVariables false
set_option maxRecDepth 100000
namespace Go.Proofs.YtkkcmobnhiiacaaDoor
open Go.RowKit

def sD (s : Ys) (first : Bool) (k : Nat) : Bool × Nat := if first = false ∧ eatB s k [62, 32] = true then (false, k + 2) else (true, k)
def sN (s : Ys) (k : Nat) : Option (Ys × Nat) := if eatB s k [42] = true then some ([], k + 1) else if nameOk (nmT s k) = true then some (nmT s k, k + (nmT s k).length) else none
def sA (s : Ys) (k : Nat) : Option (Ys × Nat) := if eatB s k [91] = true then (if nameOk (nmT s (k + 1)) = true ∧ eatB s (k + 1 + (nmT s (k + 1)).length) [93] = true then some (nmT s (k + 1), k + 1 + (nmT s (k + 1)).length + 1) else none) else some ([], k)
def sK (s : Ys) : Nat → List Pk → Nat → Option (List Pk)
  | 0, _, _ => none
  | f + 1, acc, k => match sN s (sD s (decide (acc = [])) k).2 with
    | none => none
    | some (n, k2) => match sA s k2 with
      | none => none
      | some (a, k3) => if k3 = s.length then some (acc ++ [(n, a, (sD s (decide (acc = [])) k).1)]) else if eatB s k3 [32] = true then sK s f (acc ++ [(n, a, (sD s (decide (acc = [])) k).1)]) (k3 + 1) else none
theorem eat_le {s : Ys} {k : Nat} {x : Ys} (hk : k ≤ s.length) (h : eatB s k x = true) : k + x.length ≤ s.length := by
  have h := of_decide_eq_true h
  have := congrArg List.length h
  simp at this
  omega
theorem nmT_le {s : Ys} {k : Nat} (hk : k ≤ s.length) : k + (nmT s k).length ≤ s.length := by
  have h : (nmT s k).length ≤ (s.drop k).length := (List.takeWhile_sublist _).length_le
  simp at h
  omega
theorem nmT_drop (s : Ys) (k : Nat) : (s.drop k).dropWhile nmC = s.drop (k + (nmT s k).length) := by
  have e : nmT s k ++ (s.drop k).dropWhile nmC = s.drop k := List.takeWhile_append_dropWhile
  calc (s.drop k).dropWhile nmC = (nmT s k ++ (s.drop k).dropWhile nmC).drop (nmT s k).length := by rw [List.drop_left]
    _ = (s.drop k).drop (nmT s k).length := by rw [e]
    _ = s.drop (k + (nmT s k).length) := by rw [List.drop_drop]
theorem sD_eq (s : Ys) (first : Bool) (k : Nat) : pkDeep first (s.drop k) = ((sD s first k).1, s.drop (sD s first k).2) := by
  unfold pkDeep sD eatB
  simp only [List.length_cons, List.length_nil, decide_eq_true_eq]
  split
  · simp
  · rfl
theorem sN_eq (s : Ys) (k : Nat) : pkName (s.drop k) = (sN s k).map fun p => (p.1, s.drop p.2) := by
  unfold pkName sN eatB
  simp only [List.length_cons, List.length_nil, decide_eq_true_eq]
  split
  · simp
  · split
    · rename_i h
      rw [if_pos (show nameOk (nmT s k) = true from h), nmT_drop]
      rfl
    · rename_i h
      rw [if_neg (show ¬ nameOk (nmT s k) = true from h)]
      rfl
theorem sA_eq (s : Ys) (k : Nat) : pkAttr (s.drop k) = (sA s k).map fun p => (p.1, s.drop p.2) := by
  unfold pkAttr sA eatB
  simp only [List.length_cons, List.length_nil, Nat.zero_add, decide_eq_true_eq]
  split
  · rw [List.drop_drop, nmT_drop, show (s.drop (k + 1)).takeWhile nmC = nmT s (k + 1) from rfl]
    split
    · simp
    · rfl
  · rfl
theorem sD_le {s : Ys} {first : Bool} {k : Nat} (hk : k ≤ s.length) : (sD s first k).2 ≤ s.length ∧ k ≤ (sD s first k).2 := by
  unfold sD
  split
  · rename_i h
    have := eat_le hk h.2
    simp at this ⊢
    omega
  · exact ⟨hk, Nat.le_refl _⟩
theorem sN_le {s : Ys} {k k2 : Nat} {n : Ys} (hk : k ≤ s.length) (h : sN s k = some (n, k2)) : k2 ≤ s.length ∧ k < k2 := by
  unfold sN at h
  split at h
  · rename_i h1
    have := eat_le hk h1
    cases h
    simp at this
    omega
  · split at h
    · rename_i h1
      have := nmT_le hk
      have := List.length_pos_iff.2 (name_ne h1)
      cases h
      omega
    · cases h
theorem sA_le {s : Ys} {k k3 : Nat} {a : Ys} (hk : k ≤ s.length) (h : sA s k = some (a, k3)) : k3 ≤ s.length ∧ k ≤ k3 := by
  unfold sA at h
  split at h
  · rename_i h1
    have h1 := eat_le hk h1
    simp at h1
    split at h
    · rename_i h2
      have := eat_le (nmT_le (k := k + 1) h1) h2.2
      cases h
      simp at this
      omega
    · cases h
  · cases h; omega
theorem sK_eq (s : Ys) : ∀ (f : Nat) (acc : List Pk) (k : Nat), k ≤ s.length → sK s f acc k = strictL f acc (s.drop k)
  | 0, acc, k, _ => rfl
  | f + 1, acc, k, hk => by
    rw [sK, strictL]
    unfold pk1
    rw [sD_eq]
    simp only
    have h1 := (sD_le (s := s) (first := decide (acc = [])) hk).1
    rw [sN_eq]
    cases hn : sN s (sD s (decide (acc = [])) k).2 with
    | none => rfl
    | some q =>
      obtain ⟨n, k2⟩ := q
      have h2 := (sN_le h1 hn).1
      simp only [Option.map_some]
      rw [sA_eq]
      cases ha : sA s k2 with
      | none => rfl
      | some q =>
        obtain ⟨a, k3⟩ := q
        have h3 := (sA_le h2 ha).1
        simp only [Option.map_some]
        by_cases he : k3 = s.length
        · rw [if_pos he, if_pos (by rw [he]; simp)]
        · rw [if_neg he, if_neg (show ¬ s.drop k3 = [] from fun h => by have := congrArg List.length h; simp at this; omega)]
          by_cases hb : eatB s k3 [32] = true
          · have hb2 : (s.drop k3).take 1 = [32] := of_decide_eq_true hb
            rw [if_pos hb, if_pos hb2, List.drop_drop]
            have := eat_le h3 hb
            exact sK_eq s f _ _ (by simpa using this)
          · have hb2 : ¬ (s.drop k3).take 1 = [32] := fun h => hb (decide_eq_true h)
            rw [if_neg hb, if_neg hb2]
end Go.Proofs.YtkkcmobnhiiacaaDoor
