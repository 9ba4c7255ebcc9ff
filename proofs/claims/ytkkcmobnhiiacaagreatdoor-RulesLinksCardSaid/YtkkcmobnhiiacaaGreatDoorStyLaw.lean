/- Styles that are parsed: plain laws. No conditions. -/
import Derived.Test.YtkkcmobnhiiacaaGreatDoorLib
import Derived.Lib.IndexMore
set_option linter.unusedSimpArgs false
set_option linter.unusedVariables false
set_option maxRecDepth 100000
namespace Go.Proofs.YtkkcmobnhiiacaaGreatDoor
open Go.RowKit

/-! ### Where a text stands -/
theorem index_cons (b : UInt8) (l sub : List UInt8) : Lib.index (b :: l) sub = if sub.isPrefixOf (b :: l) = true then 0 else if Lib.index l sub = -1 then -1 else Lib.index l sub + 1 := by
  rw [Lib.index]
  split
  · rfl
  · simp [beq_iff_eq]
theorem index_nil {sub : List UInt8} (h : sub ≠ []) : Lib.index [] sub = -1 := by
  cases sub with
  | nil => exact absurd rfl h
  | cons a l => rfl
theorem index_low (s sub : List UInt8) : -1 ≤ Lib.index s sub := Lib.index_ge s sub

/-! ### Without remarks -/
/-- The program's way, with fuel. -/
def bareP : Nat → List UInt8 → List UInt8
  | 0, _ => []
  | n + 1, s => if Lib.index s [47, 42] = -1 then s else s.take (Lib.index s [47, 42]).toNat ++
      (if Lib.index (s.drop ((Lib.index s [47, 42]).toNat + 2)) [42, 47] = -1 then [] else bareP n ((s.drop ((Lib.index s [47, 42]).toNat + 2)).drop ((Lib.index (s.drop ((Lib.index s [47, 42]).toNat + 2)) [42, 47]).toNat + 2)))
/-- The document's. -/
def bareD : Nat → List UInt8 → List UInt8
  | 0, _ => []
  | _ + 1, [] => []
  | n + 1, c :: r => if [47, 42].isPrefixOf (c :: r) = true then
      (if Lib.index ((c :: r).drop 2) [42, 47] = -1 then [] else bareD n (((c :: r).drop 2).drop ((Lib.index ((c :: r).drop 2) [42, 47]).toNat + 2)))
    else c :: bareD n r
theorem bareD_fuel : ∀ (n m : Nat) (s : List UInt8), s.length < n → s.length < m → bareD n s = bareD m s
  | 0, _, s, h, _ => absurd h (Nat.not_lt_zero _)
  | _, 0, s, _, h => absurd h (Nat.not_lt_zero _)
  | n + 1, m + 1, [], _, _ => rfl
  | n + 1, m + 1, c :: r, h1, h2 => by
    simp only [List.length_cons] at h1 h2
    rw [bareD, bareD]
    split
    · split
      · rfl
      · exact bareD_fuel n m _ (by simp only [List.length_drop, List.length_cons]; omega) (by simp only [List.length_drop, List.length_cons]; omega)
    · rw [bareD_fuel n m r (by omega) (by omega)]
/-- From a text on, as far as a remark. -/
theorem bareD_head : ∀ (s : List UInt8) (n : Nat), s.length < n → bareD n s = if Lib.index s [47, 42] = -1 then s else s.take (Lib.index s [47, 42]).toNat ++
      (if Lib.index (s.drop ((Lib.index s [47, 42]).toNat + 2)) [42, 47] = -1 then [] else bareD n ((s.drop ((Lib.index s [47, 42]).toNat + 2)).drop ((Lib.index (s.drop ((Lib.index s [47, 42]).toNat + 2)) [42, 47]).toNat + 2)))
  | [], n, h => by
    cases n with
    | zero => exact absurd h (Nat.not_lt_zero _)
    | succ n => rw [if_pos (index_nil (by simp))]; rfl
  | c :: r, n, h => by
    cases n with
    | zero => exact absurd h (Nat.not_lt_zero _)
    | succ n =>
    simp only [List.length_cons] at h
    rw [index_cons]
    by_cases hp : [47, 42].isPrefixOf (c :: r) = true
    · rw [if_pos hp, if_neg (by decide), bareD, if_pos hp]
      simp only [Int.toNat_zero, Nat.zero_add, List.take_zero, List.nil_append]
      split
      · rfl
      · exact bareD_fuel n (n + 1) _ (by simp only [List.length_drop, List.length_cons]; omega) (by simp only [List.length_drop, List.length_cons]; omega)
    · rw [if_neg hp]
      have hb : bareD (n + 1) (c :: r) = c :: bareD (n + 1) r := by
        rw [bareD, if_neg hp, bareD_fuel n (n + 1) r (by omega) (by omega)]
      rw [hb, bareD_head r (n + 1) (by omega)]
      have hlow := index_low r [47, 42]
      by_cases hi : Lib.index r [47, 42] = -1
      · simp only [if_pos hi, if_true]
      · simp only [if_neg hi]
        rw [if_neg (show ¬ Lib.index r [47, 42] + 1 = -1 by omega)]
        have e : (Lib.index r [47, 42] + 1).toNat = (Lib.index r [47, 42]).toNat + 1 := by omega
        rw [e, List.take_succ_cons, show (Lib.index r [47, 42]).toNat + 1 + 2 = (Lib.index r [47, 42]).toNat + 2 + 1 by omega, List.drop_succ_cons]
        rfl
theorem bare_eq : ∀ (n : Nat) (s : List UInt8), s.length < n → bareP n s = bareD n s
  | 0, s, h => absurd h (Nat.not_lt_zero _)
  | n + 1, s, h => by
    rw [bareD_head s (n + 1) h, bareP]
    split
    · rfl
    · rename_i hi
      split
      · rfl
      · have hlow := index_low s [47, 42]
        have hs : s ≠ [] := fun e => hi (by rw [e]; exact index_nil (by simp))
        have hl : 0 < s.length := List.length_pos_iff.2 hs
        rw [bare_eq n _ (by simp only [List.length_drop]; omega), bareD_fuel n (n + 1) _ (by simp only [List.length_drop]; omega) (by simp only [List.length_drop]; omega)]
theorem bareP_len : ∀ (n : Nat) (s : List UInt8), (bareP n s).length ≤ s.length
  | 0, s => by simp [bareP]
  | n + 1, s => by
    rw [bareP]
    split
    · exact Nat.le_refl _
    · split
      · simp only [List.append_nil, List.length_take]; omega
      · have := bareP_len n ((s.drop ((Lib.index s [47, 42]).toNat + 2)).drop ((Lib.index (s.drop ((Lib.index s [47, 42]).toNat + 2)) [42, 47]).toNat + 2))
        simp only [List.length_append, List.length_take, List.length_drop] at this ⊢
        omega

/-! ### Pieces -/
/-- The program's way: q: the quote that is open, or 0. -/
def pcsP (q : UInt8) (deep : Nat) (now : List UInt8) : List UInt8 → List (List UInt8)
  | [] => [now]
  | c :: r => if q ≠ 0 then pcsP (if c = q then 0 else q) deep (now ++ [c]) r
    else if c = 34 ∨ c = 39 then pcsP c deep (now ++ [c]) r
    else if c = 40 then pcsP 0 (deep + 1) (now ++ [c]) r
    else if c = 41 then pcsP 0 (deep - 1) (now ++ [c]) r
    else if c = 59 ∧ deep = 0 then now :: pcsP 0 0 [] r
    else pcsP 0 deep (now ++ [c]) r
/-- The document's, with fuel. -/
def pcsD : Nat → Nat → List UInt8 → List UInt8 → List (List UInt8)
  | 0, _, now, _ => [now]
  | _ + 1, _, now, [] => [now]
  | n + 1, deep, now, c :: r => if c = 34 ∨ c = 39 then
      (if Lib.index r [c] = -1 then [now ++ c :: r] else pcsD n deep (now ++ c :: r.take ((Lib.index r [c]).toNat + 1)) (r.drop ((Lib.index r [c]).toNat + 1)))
    else if c = 40 then pcsD n (deep + 1) (now ++ [c]) r
    else if c = 41 then pcsD n (deep - 1) (now ++ [c]) r
    else if c = 59 ∧ deep = 0 then now :: pcsD n 0 [] r
    else pcsD n deep (now ++ [c]) r
theorem index_one (c b : UInt8) (l : List UInt8) : Lib.index (b :: l) [c] = if c = b then 0 else if Lib.index l [c] = -1 then -1 else Lib.index l [c] + 1 := by
  rw [index_cons]
  congr 1
  simp [List.isPrefixOf]
theorem pcs_quote (q : UInt8) (hq : q ≠ 0) (deep : Nat) : ∀ (r now : List UInt8), pcsP q deep now r = if Lib.index r [q] = -1 then [now ++ r] else pcsP 0 deep (now ++ r.take ((Lib.index r [q]).toNat + 1)) (r.drop ((Lib.index r [q]).toNat + 1))
  | [], now => by rw [if_pos (index_nil (by simp)), pcsP, List.append_nil]
  | c :: r, now => by
    rw [pcsP, if_pos hq, index_one]
    by_cases hc : c = q
    · simp only [if_pos hc, if_pos hc.symm]
      rfl
    · have hc' : ¬ q = c := fun e => hc e.symm
      rw [if_neg hc, pcs_quote q hq deep r (now ++ [c])]
      have hlow := index_low r [q]
      by_cases hi : Lib.index r [q] = -1
      · simp only [if_pos hi, if_neg hc', if_true, List.append_assoc]; rfl
      · simp only [if_neg hi, if_neg hc']
        rw [if_neg (show ¬ Lib.index r [q] + 1 = -1 by omega)]
        rw [show (Lib.index r [q] + 1).toNat = (Lib.index r [q]).toNat + 1 by omega, List.take_succ_cons, List.drop_succ_cons, List.append_assoc]
        rfl
theorem pcs_eq : ∀ (n : Nat) (s now : List UInt8) (deep : Nat), s.length < n → pcsP 0 deep now s = pcsD n deep now s
  | 0, s, _, _, h => absurd h (Nat.not_lt_zero _)
  | n + 1, [], now, deep, _ => rfl
  | n + 1, c :: r, now, deep, h => by
    simp only [List.length_cons] at h
    rw [pcsP, if_neg (by simp), pcsD]
    by_cases h1 : c = 34 ∨ c = 39
    · have hc : c ≠ 0 := by rcases h1 with rfl | rfl <;> decide
      rw [if_pos h1, if_pos h1, pcs_quote c hc deep r (now ++ [c])]
      split
      · rw [List.append_assoc]; rfl
      · rw [pcs_eq n _ _ _ (by simp only [List.length_drop]; omega), List.append_assoc]; rfl
    · rw [if_neg h1, if_neg h1]
      split
      · exact pcs_eq n r _ _ (by omega)
      · split
        · exact pcs_eq n r _ _ (by omega)
        · split
          · rw [pcs_eq n r _ _ (by omega)]
          · exact pcs_eq n r _ _ (by omega)

/-! ### Declarations -/
def lowB (b : UInt8) : UInt8 := if 65 ≤ b.toNat ∧ b.toNat ≤ 90 then b + 32 else b
def smallL (s : List UInt8) : List UInt8 := s.map lowB
def spS (b : UInt8) : Bool := [32, 9, 10, 12, 13].contains b
end Go.Proofs.YtkkcmobnhiiacaaGreatDoor
