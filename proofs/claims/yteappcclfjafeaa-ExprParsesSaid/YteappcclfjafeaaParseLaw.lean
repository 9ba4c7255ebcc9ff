/- Expressions that are parsed: plain laws. No conditions. -/
import Derived.Test.YteappcclfjafeaaExprC
set_option linter.unusedSimpArgs false
set_option linter.unusedVariables false
set_option maxRecDepth 100000
namespace Go.Proofs.Yteappcclfjafeaa
open Go.RowKit

/-! ### Parts of a kind -/
def spl (k : Int) (p : Ex) : List Ex := if p.kind = k then p.parts else [p]
def norm (k : Int) (ps : List Ex) : Ex := match ps with
  | [y] => y
  | _ => .mk k 0 ps
def tog (k : Int) (l : List Ex) : Ex := match l with
  | [x] => x
  | _ => norm k (l.flatMap (spl k))
def jnd (k : Int) (a b : Ex) : Ex := norm k (spl k a ++ spl k b)
/-- Clean at its head. -/
def Cl (x : Ex) : Prop := (x.kind = 2 ∨ x.kind = 3) → x.type = 0 ∧ x.parts.length ≠ 1 ∧ ∀ p ∈ x.parts, p.kind ≠ x.kind
theorem norm_one (k : Int) (y : Ex) : norm k [y] = y := rfl
theorem norm_many {k : Int} {ps : List Ex} (h : ps.length ≠ 1) : norm k ps = .mk k 0 ps := by
  unfold norm
  split
  · exact absurd rfl h
  · rfl
theorem norm_spl {k : Int} (hk : k = 2 ∨ k = 3) {x : Ex} (hx : Cl x) : norm k (spl k x) = x := by
  unfold spl
  by_cases h : x.kind = k
  · rw [if_pos h]
    obtain ⟨h1, h2, _⟩ := hx (by rw [h]; exact hk)
    rw [norm_many h2, ← h]
    cases x with
    | mk a b c => simp only [Ex.kind, Ex.type, Ex.parts] at *; rw [h1]
  · rw [if_neg h]; rfl
theorem tog_norm {k : Int} (hk : k = 2 ∨ k = 3) {l : List Ex} (hl : ∀ x ∈ l, Cl x) : tog k l = norm k (l.flatMap (spl k)) := by
  unfold tog
  split
  · rename_i x
    rw [List.flatMap_cons, List.flatMap_nil, List.append_nil, norm_spl hk (hl x (by simp))]
  · rfl
theorem spl_none {k : Int} (hk : k = 2 ∨ k = 3) {x : Ex} (hx : Cl x) : ∀ p ∈ spl k x, p.kind ≠ k := by
  intro p hp
  unfold spl at hp
  split at hp
  · rename_i h
    have := (hx (by rw [h]; exact hk)).2.2 p hp
    rwa [h] at this
  · rename_i h
    rw [List.mem_singleton] at hp
    rw [hp]; exact h
theorem flat_none {k : Int} (hk : k = 2 ∨ k = 3) {l : List Ex} (hl : ∀ x ∈ l, Cl x) : ∀ p ∈ l.flatMap (spl k), p.kind ≠ k := by
  intro p hp
  obtain ⟨x, hx, hp⟩ := List.mem_flatMap.1 hp
  exact spl_none hk (hl x hx) p hp
theorem spl_norm {k : Int} {ps : List Ex} (h : ∀ p ∈ ps, p.kind ≠ k) : spl k (norm k ps) = ps := by
  by_cases h1 : ps.length = 1
  · obtain ⟨y, rfl⟩ := List.length_eq_one_iff.1 h1
    rw [norm_one]
    unfold spl
    rw [if_neg (h y (by simp))]
  · rw [norm_many h1]
    unfold spl
    rw [if_pos (show (Ex.mk k 0 ps).kind = k from rfl)]
    rfl
theorem jnd_snoc {k : Int} (hk : k = 2 ∨ k = 3) {l : List Ex} (hl : ∀ x ∈ l, Cl x) (x : Ex) : jnd k (norm k (l.flatMap (spl k))) x = norm k ((l ++ [x]).flatMap (spl k)) := by
  unfold jnd
  rw [spl_norm (flat_none hk hl), List.flatMap_append, List.flatMap_cons, List.flatMap_nil, List.append_nil]
theorem jnd_tog {k : Int} (hk : k = 2 ∨ k = 3) {l : List Ex} (hl : ∀ x ∈ l, Cl x) {x : Ex} (hx : Cl x) : jnd k (tog k l) x = tog k (l ++ [x]) := by
  rw [tog_norm hk hl, jnd_snoc hk hl, tog_norm hk (fun y hy => by
    rcases List.mem_append.1 hy with h | h
    · exact hl y h
    · rw [List.mem_singleton] at h; rw [h]; exact hx)]
theorem tog_nil : tog 2 [] = .mk 2 0 [] := rfl
theorem tog_one (k : Int) (x : Ex) : tog k [x] = x := rfl
theorem flat_one_mem {k : Int} (hk : k = 2 ∨ k = 3) : ∀ {l : List Ex}, (∀ x ∈ l, Cl x) → ∀ y, l.flatMap (spl k) = [y] → y ∈ l
  | [], _, y, h => by simp at h
  | x :: l, hl, y, h => by
    rw [List.flatMap_cons] at h
    have hlen := congrArg List.length h
    rw [List.length_append] at hlen
    simp only [List.length_singleton] at hlen
    by_cases hx : x.kind = k
    · have h2 := (hl x (by simp) (by rw [hx]; exact hk)).2.1
      have e : spl k x = x.parts := by unfold spl; rw [if_pos hx]
      rw [e] at h hlen
      have h0 : x.parts = [] := List.length_eq_zero_iff.1 (by omega)
      rw [h0, List.nil_append] at h
      exact List.mem_cons_of_mem _ (flat_one_mem hk (fun z hz => hl z (by simp [hz])) y h)
    · have e : spl k x = [x] := by unfold spl; rw [if_neg hx]
      rw [e] at h
      simp at h
      rw [h.1]; simp
theorem tog_cl {k : Int} (hk : k = 2 ∨ k = 3) {l : List Ex} (hl : ∀ x ∈ l, Cl x) : Cl (tog k l) := by
  rw [tog_norm hk hl]
  by_cases h1 : (l.flatMap (spl k)).length = 1
  · obtain ⟨y, hy⟩ := List.length_eq_one_iff.1 h1
    rw [hy, norm_one]
    exact hl y (flat_one_mem hk hl y hy)
  · rw [norm_many h1]
    exact fun _ => ⟨rfl, h1, flat_none hk hl⟩

/-! ### The parser of the program -/
def isSgn (c : UInt8) : Bool := decide (c = 42) || decide (c = 43) || decide (c = 63)
def sgnK (c : UInt8) : Int := if c = 42 then 4 else if c = 43 then 5 else 6
def suf : Ex → List UInt8 → Ex × List UInt8
  | x, [] => (x, [])
  | x, c :: r => if isSgn c = true then suf (.mk (sgnK c) 0 [x]) r else (x, c :: r)
abbrev PR := Ex × List UInt8 × Bool
def isLow (c : UInt8) : Bool := decide (97 ≤ c.toNat) && decide (c.toNat ≤ 104)
def baseF (f : List UInt8 → PR) (c : UInt8) (r : List UInt8) : PR :=
  if isLow c = true then (.mk 1 ((c.toNat : Int) - 97) [], r, false)
  else if c = 40 then (match f r with
    | (x, s, true) => (x, s, true)
    | (x, s, false) => match s with
      | [] => (x, [], true)
      | d :: s' => if d = 41 then (x, s', false) else (x, d :: s', true))
  else (.mk 0 0 [], r, true)
def itemF (f : List UInt8 → PR) (c : UInt8) (r : List UInt8) : PR := ((suf (baseF f c r).1 (baseF f c r).2.1).1, (suf (baseF f c r).1 (baseF f c r).2.1).2, (baseF f c r).2.2)
def seqF (f : List UInt8 → PR) : Nat → List UInt8 → List Ex → List Ex × List UInt8 × Bool
  | 0, s, l => (l, s, false)
  | _ + 1, [], l => (l, [], false)
  | n + 1, c :: r, l => if c = 124 ∨ c = 41 then (l, c :: r, false) else
    if (itemF f c r).2.2 = true then (l ++ [(itemF f c r).1], (itemF f c r).2.1, true) else seqF f n (itemF f c r).2.1 (l ++ [(itemF f c r).1])
def altF (f : List UInt8 → PR) : Nat → List UInt8 → Bool → List Ex → List Ex × List UInt8 × Bool
  | 0, s, b, l => (l, s, b)
  | _ + 1, [], b, l => (l, [], b)
  | n + 1, c :: r, b, l => if c = 124 then (if b = true then altF f n r true (l ++ [tog 2 []]) else altF f n (seqF f r.length r []).2.1 (seqF f r.length r []).2.2 (l ++ [tog 2 (seqF f r.length r []).1])) else (l, c :: r, b)
def pSeq (f : List UInt8 → PR) (s : List UInt8) : PR := (tog 2 (seqF f s.length s []).1, (seqF f s.length s []).2)
def pAlt : Nat → List UInt8 → PR
  | 0, s => (.mk 0 0 [], s, true)
  | n + 1, s => (tog 3 (altF (pAlt n) s.length (pSeq (pAlt n) s).2.1 (pSeq (pAlt n) s).2.2 [(pSeq (pAlt n) s).1]).1, (altF (pAlt n) s.length (pSeq (pAlt n) s).2.1 (pSeq (pAlt n) s).2.2 [(pSeq (pAlt n) s).1]).2)

/-! ### How much -/
theorem szEL_app (a b : List Ex) : szEL (a ++ b) = szEL a + szEL b := by simp [szEL_sum]
theorem szEL_one (x : Ex) : szEL [x] = szE x := by simp [szEL_sum]
theorem spl_sz (k : Int) (x : Ex) : szEL (spl k x) ≤ szE x := by
  unfold spl
  split
  · cases x; rw [szE_mk]; simp only [Ex.parts]; omega
  · rw [szEL_one]; exact Nat.le_refl _
theorem flat_sz (k : Int) : ∀ l : List Ex, szEL (l.flatMap (spl k)) ≤ szEL l
  | [] => by simp [szEL_sum]
  | x :: l => by
    have h1 := spl_sz k x
    have h2 := flat_sz k l
    rw [List.flatMap_cons, szEL_app]
    have : szEL (x :: l) = szE x + szEL l := by simp [szEL_sum]
    omega
theorem norm_sz (k : Int) (ps : List Ex) : szE (norm k ps) ≤ szEL ps + 4 := by
  unfold norm
  split
  · rw [szEL_one]; omega
  · rw [szE_mk]; omega
theorem tog_sz (k : Int) (l : List Ex) : szE (tog k l) ≤ szEL l + 4 := by
  unfold tog
  split
  · rw [szEL_one]; omega
  · have h1 := norm_sz k (l.flatMap (spl k))
    have h2 := flat_sz k l
    omega
theorem suf_sz : ∀ (s : List UInt8) (x : Ex), szE (suf x s).1 + 8 * (suf x s).2.length ≤ szE x + 8 * s.length ∧ (suf x s).2.length ≤ s.length
  | [], x => by simp [suf]
  | c :: r, x => by
    unfold suf
    split
    · have := suf_sz r (.mk (sgnK c) 0 [x])
      rw [szE_mk, szEL_one] at this
      simp only [List.length_cons]
      omega
    · simp
section
variable {f : List UInt8 → PR}
def FSz (f : List UInt8 → PR) (r : List UInt8) : Prop := szE (f r).1 + 8 * (f r).2.1.length ≤ 8 * r.length + 8 ∧ (f r).2.1.length ≤ r.length
theorem base_sz (c : UInt8) (r : List UInt8) (h : FSz f r) : szE (baseF f c r).1 + 8 * (baseF f c r).2.1.length ≤ 8 * r.length + 8 ∧ (baseF f c r).2.1.length ≤ r.length := by
  unfold FSz at h
  unfold baseF
  split
  · simp [szE_mk, szEL_sum]; try omega
  · split
    · split
      · rename_i x s hf
        rw [hf] at h
        exact h
      · rename_i x s hf
        rw [hf] at h
        simp only at h
        split
        · simpa using h
        · split
          · simp only [List.length_cons] at h ⊢; omega
          · exact h
    · simp [szE_mk, szEL_sum]; try omega
theorem item_sz (c : UInt8) (r : List UInt8) (h : FSz f r) : szE (itemF f c r).1 + 8 * (itemF f c r).2.1.length ≤ 8 * r.length + 8 ∧ (itemF f c r).2.1.length ≤ r.length := by
  have h1 := base_sz c r h
  have h2 := suf_sz (baseF f c r).2.1 (baseF f c r).1
  unfold itemF
  simp only
  omega
theorem seq_sz : ∀ (n : Nat) (s : List UInt8) (l : List Ex), (∀ r : List UInt8, r.length < s.length → FSz f r) → szEL (seqF f n s l).1 + 8 * (seqF f n s l).2.1.length ≤ szEL l + 8 * s.length ∧ (seqF f n s l).2.1.length ≤ s.length
  | 0, s, l, _ => by simp [seqF]
  | n + 1, [], l, _ => by simp [seqF]
  | n + 1, c :: r, l, hf => by
    have hi := item_sz c r (hf r (by simp))
    unfold seqF
    split
    · simp
    · split
      · simp only [szEL_app, szEL_one, List.length_cons]; omega
      · have := seq_sz n (itemF f c r).2.1 (l ++ [(itemF f c r).1]) (fun r' hr' => hf r' (by simp only [List.length_cons]; omega))
        rw [szEL_app, szEL_one] at this
        simp only [List.length_cons]; omega
theorem alt_sz : ∀ (n : Nat) (s : List UInt8) (b : Bool) (l : List Ex), (∀ r : List UInt8, r.length < s.length → FSz f r) → szEL (altF f n s b l).1 + 8 * (altF f n s b l).2.1.length ≤ szEL l + 8 * s.length ∧ (altF f n s b l).2.1.length ≤ s.length
  | 0, s, b, l, _ => by simp [altF]
  | n + 1, [], b, l, _ => by simp [altF]
  | n + 1, c :: r, b, l, hf => by
    unfold altF
    split
    · split
      · have := alt_sz n r true (l ++ [tog 2 []]) (fun r' hr' => hf r' (by simp only [List.length_cons]; omega))
        have h0 : szEL [] = 0 := by simp [szEL_sum]
        have ht : szE (tog 2 []) = 4 := by rw [tog_nil, szE_mk, h0]
        rw [szEL_app, szEL_one, ht] at this
        simp only [List.length_cons]
        omega
      · have h1 := seq_sz r.length r [] (fun r' hr' => hf r' (by simp only [List.length_cons]; omega))
        have h0 : szEL [] = 0 := by simp [szEL_sum]
        have h2 := alt_sz n (seqF f r.length r []).2.1 (seqF f r.length r []).2.2 (l ++ [tog 2 (seqF f r.length r []).1]) (fun r' hr' => hf r' (by simp only [List.length_cons]; omega))
        have h3 := tog_sz 2 (seqF f r.length r []).1
        rw [szEL_app, szEL_one] at h2
        simp only [List.length_cons]
        omega
    · simp
theorem pseq_sz (s : List UInt8) (hf : ∀ r : List UInt8, r.length < s.length → FSz f r) : szE (pSeq f s).1 + 8 * (pSeq f s).2.1.length ≤ 8 * s.length + 4 ∧ (pSeq f s).2.1.length ≤ s.length := by
  have h1 := seq_sz s.length s [] hf
  have h2 := tog_sz 2 (seqF f s.length s []).1
  have h0 : szEL [] = 0 := by simp [szEL_sum]
  unfold pSeq
  simp only
  omega
end
theorem palt_sz : ∀ (n : Nat) (s : List UInt8), s.length < n → FSz (pAlt n) s
  | 0, s, h => absurd h (Nat.not_lt_zero _)
  | n + 1, s, h => by
    have hf : ∀ r : List UInt8, r.length < s.length → FSz (pAlt n) r := fun r hr => palt_sz n r (by omega)
    have h1 := pseq_sz s hf
    have h2 := alt_sz (f := pAlt n) s.length (pSeq (pAlt n) s).2.1 (pSeq (pAlt n) s).2.2 [(pSeq (pAlt n) s).1] (fun r hr => hf r (by omega))
    have h3 := tog_sz 3 (altF (pAlt n) s.length (pSeq (pAlt n) s).2.1 (pSeq (pAlt n) s).2.2 [(pSeq (pAlt n) s).1]).1
    rw [szEL_one] at h2
    unfold FSz pAlt
    simp only
    omega
end Go.Proofs.Yteappcclfjafeaa
