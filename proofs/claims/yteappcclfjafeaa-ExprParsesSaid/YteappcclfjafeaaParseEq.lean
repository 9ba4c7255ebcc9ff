/- Expressions that are parsed: the program's parser and the document's answer alike. No conditions. -/
import Derived.Test.YteappcclfjafeaaParseLaw
set_option linter.unusedSimpArgs false
set_option linter.unusedVariables false
set_option maxRecDepth 100000
namespace Go.Proofs.Yteappcclfjafeaa
open Go.RowKit

/-! ### The document's reader -/
def flu (all : Option Ex) (now : Ex) : Ex := match all with
  | none => now
  | some a => jnd 3 a now
abbrev DR := Option (Ex × List UInt8)
def baseD (g : List UInt8 → DR) (c : UInt8) (r : List UInt8) : DR :=
  if isLow c = true then some (.mk 1 ((c.toNat : Int) - 97) [], r)
  else if c = 40 then (match g r with
    | none => none
    | some (_, []) => none
    | some (x, _ :: s') => some (x, s'))
  else none
def runD (g : List UInt8 → DR) : Nat → List UInt8 → Ex → Option Ex → DR
  | 0, s, now, all => some (flu all now, s)
  | _ + 1, [], now, all => some (flu all now, [])
  | n + 1, c :: r, now, all =>
    if c = 41 then some (flu all now, c :: r)
    else if c = 124 then runD g n r (.mk 2 0 []) (some (flu all now))
    else match baseD g c r with
      | none => none
      | some (x, t) => runD g n (suf x t).2 (jnd 2 now (suf x t).1) all
def dAlt : Nat → List UInt8 → DR
  | 0, _ => none
  | n + 1, s => runD (dAlt n) s.length s (.mk 2 0 []) none

/-! ### Both alike -/
def RelP (p : PR) (d : DR) : Prop := match d with
  | none => p.2.2 = true
  | some (x, t) => p = (x, t, false) ∧ Cl x ∧ (∀ c r, t = c :: r → c = 41)
theorem cl_one (t : Int) (ps : List Ex) : Cl (.mk 1 t ps) := fun h => by simp [Ex.kind] at h
theorem cl_zero (t : Int) (ps : List Ex) : Cl (.mk 0 t ps) := fun h => by simp [Ex.kind] at h
theorem sgn_big (c : UInt8) : 4 ≤ sgnK c := by unfold sgnK; split <;> (try split) <;> omega
theorem cl_suf : ∀ (s : List UInt8) (x : Ex), Cl x → Cl (suf x s).1
  | [], x, h => by simpa [suf] using h
  | c :: r, x, h => by
    unfold suf
    split
    · exact cl_suf r _ (fun h => by have := sgn_big c; simp only [Ex.kind] at h; omega)
    · exact h
theorem suf_len : ∀ (s : List UInt8) (x : Ex), (suf x s).2.length ≤ s.length := fun s x => (suf_sz s x).2
theorem alt_bad (f : List UInt8 → PR) : ∀ (n : Nat) (s : List UInt8) (l : List Ex), (altF f n s true l).2.2 = true
  | 0, s, l => by simp [altF]
  | n + 1, [], l => by simp [altF]
  | n + 1, c :: r, l => by
    unfold altF
    split
    · rw [if_pos rfl]; exact alt_bad f n r _
    · rfl
section
variable {f : List UInt8 → PR} {g : List UInt8 → DR}
/-- Program: what stands since the last bar, then the rest. -/
def runP (f : List UInt8 → PR) (n m : Nat) (s : List UInt8) (l L : List Ex) : PR :=
  (tog 3 (altF f m (seqF f n s l).2.1 (seqF f n s l).2.2 (L ++ [tog 2 (seqF f n s l).1])).1, (altF f m (seqF f n s l).2.1 (seqF f n s l).2.2 (L ++ [tog 2 (seqF f n s l).1])).2)
theorem base_rel {c : UInt8} {r : List UInt8} (h : RelP (f r) (g r)) :
    match baseD g c r with | none => (baseF f c r).2.2 = true | some (x, t) => baseF f c r = (x, t, false) ∧ Cl x ∧ t.length ≤ max r.length (f r).2.1.length := by
  unfold baseD baseF
  by_cases h1 : isLow c = true
  · rw [if_pos h1, if_pos h1]
    exact ⟨rfl, cl_one _ _, by omega⟩
  · rw [if_neg h1, if_neg h1]
    by_cases h2 : c = 40
    · rw [if_pos h2, if_pos h2]
      unfold RelP at h
      generalize hg : g r = q at h
      generalize hf : f r = p at h
      match q, h with
      | none, h =>
        obtain ⟨x, s, b⟩ := p
        simp only at h
        subst h
        rfl
      | some (x, []), ⟨h, hc, _⟩ =>
        subst h
        rfl
      | some (x, d :: s'), ⟨h, hc, hd⟩ =>
        subst h
        have := hd d s' rfl
        simp only [this, if_true]
        exact ⟨trivial, hc, by simp only [List.length_cons]; omega⟩
    · rw [if_neg h2, if_neg h2]
theorem run_rel : ∀ (N : Nat) (s : List UInt8) (l L : List Ex) (n m k : Nat), s.length ≤ N → s.length ≤ n → s.length ≤ m → s.length ≤ k →
    (∀ r : List UInt8, r.length < s.length → RelP (f r) (g r) ∧ (f r).2.1.length ≤ r.length) → (∀ x ∈ l, Cl x) → (∀ x ∈ L, Cl x) →
    RelP (runP f n m s l L) (runD g k s (tog 2 l) (if L = [] then none else some (tog 3 L))) := by
  have hflu : ∀ (l L : List Ex), (∀ x ∈ l, Cl x) → (∀ x ∈ L, Cl x) → flu (if L = [] then none else some (tog 3 L)) (tog 2 l) = tog 3 (L ++ [tog 2 l]) := by
    intro l L hl hL
    by_cases h0 : L = []
    · rw [if_pos h0, h0]; rfl
    · rw [if_neg h0]
      exact jnd_tog (.inr rfl) hL (tog_cl (.inl rfl) hl)
  have hclL : ∀ (l L : List Ex), (∀ x ∈ l, Cl x) → (∀ x ∈ L, Cl x) → ∀ x ∈ L ++ [tog 2 l], Cl x := by
    intro l L hl hL x hx
    rcases List.mem_append.1 hx with h | h
    · exact hL x h
    · rw [List.mem_singleton] at h; rw [h]; exact tog_cl (.inl rfl) hl
  intro N
  induction N with
  | zero =>
    intro s l L n m k hs hn hm hk hf hl hL
    have h0 : s = [] := List.length_eq_zero_iff.1 (by omega)
    subst h0
    have e1 : seqF f n [] l = (l, [], false) := by cases n <;> rfl
    have e2 : ∀ b q, altF f m [] b q = (q, [], b) := by cases m <;> intro b q <;> rfl
    have e3 : ∀ q a, runD g k [] q a = some (flu a q, []) := by cases k <;> intro q a <;> rfl
    rw [e3, hflu l L hl hL]
    unfold runP
    rw [e1, e2]
    exact ⟨rfl, tog_cl (.inr rfl) (hclL l L hl hL), fun c r h => by cases h⟩
  | succ N ih =>
    intro s l L n m k hs hn hm hk hf hl hL
    match s, n, m, k, hs, hn, hm, hk, hf with
    | [], n, m, k, hs, hn, hm, hk, hf =>
      have e1 : seqF f n [] l = (l, [], false) := by cases n <;> rfl
      have e2 : ∀ b q, altF f m [] b q = (q, [], b) := by cases m <;> intro b q <;> rfl
      have e3 : ∀ q a, runD g k [] q a = some (flu a q, []) := by cases k <;> intro q a <;> rfl
      rw [e3, hflu l L hl hL]
      unfold runP
      rw [e1, e2]
      exact ⟨rfl, tog_cl (.inr rfl) (hclL l L hl hL), fun c r h => by cases h⟩
    | c :: r, n + 1, m + 1, k + 1, hs, hn, hm, hk, hf =>
      simp only [List.length_cons] at hs hn hm hk
      by_cases h41 : c = 41
      · have e1 : seqF f (n + 1) (c :: r) l = (l, c :: r, false) := by rw [seqF, if_pos (.inr h41)]
        have e2 : ∀ b q, altF f (m + 1) (c :: r) b q = (q, c :: r, b) := fun b q => by rw [altF, if_neg (by rw [h41]; decide)]
        have e3 : ∀ q a, runD g (k + 1) (c :: r) q a = some (flu a q, c :: r) := fun q a => by rw [runD, if_pos h41]
        rw [e3, hflu l L hl hL]
        unfold runP
        rw [e1, e2]
        exact ⟨rfl, tog_cl (.inr rfl) (hclL l L hl hL), fun c' r' h => by cases h; exact h41⟩
      · by_cases h124 : c = 124
        · have e1 : seqF f (n + 1) (c :: r) l = (l, c :: r, false) := by rw [seqF, if_pos (.inl h124)]
          have e2 : ∀ q, altF f (m + 1) (c :: r) false q = altF f m (seqF f r.length r []).2.1 (seqF f r.length r []).2.2 (q ++ [tog 2 (seqF f r.length r []).1]) := fun q => by rw [altF, if_pos h124, if_neg (by decide)]
          have e3 : runD g (k + 1) (c :: r) (tog 2 l) (if L = [] then none else some (tog 3 L)) = runD g k r (tog 2 []) (if L ++ [tog 2 l] = [] then none else some (tog 3 (L ++ [tog 2 l]))) := by
            rw [runD, if_neg h41, if_pos h124, hflu l L hl hL, if_neg (by simp)]; rfl
          have := ih r [] (L ++ [tog 2 l]) r.length m k (by omega) (Nat.le_refl _) (by omega) (by omega) (fun q hq => hf q (by simp only [List.length_cons]; omega)) (by simp) (hclL l L hl hL)
          rw [e3]
          unfold runP at this ⊢
          rw [e1]
          simp only [e2]
          exact this
        · have e1 : seqF f (n + 1) (c :: r) l = if (itemF f c r).2.2 = true then (l ++ [(itemF f c r).1], (itemF f c r).2.1, true) else seqF f n (itemF f c r).2.1 (l ++ [(itemF f c r).1]) := by
            rw [seqF, if_neg (by intro h; rcases h with h | h; exact h124 h; exact h41 h)]
          have e3 : ∀ q a, runD g (k + 1) (c :: r) q a = match baseD g c r with | none => none | some (x, t) => runD g k (suf x t).2 (jnd 2 q (suf x t).1) a := fun q a => by rw [runD, if_neg h41, if_neg h124]
          have hfr := hf r (by simp)
          have hb := base_rel (c := c) hfr.1
          rw [e3]
          match hd : baseD g c r with
          | none =>
            rw [hd] at hb
            simp only at hb
            have hi : (itemF f c r).2.2 = true := hb
            rw [if_pos hi] at e1
            unfold runP
            rw [e1]
            exact alt_bad f (m + 1) _ _
          | some (x, t) =>
            rw [hd] at hb
            obtain ⟨hb, hc, hlen⟩ := hb
            have hi : itemF f c r = ((suf x t).1, (suf x t).2, false) := by unfold itemF; rw [hb]
            rw [hi] at e1
            simp only [Bool.false_eq_true, if_false] at e1
            have hcs := cl_suf t x hc
            have hsl := suf_len t x
            have hlen2 : t.length ≤ r.length := by have := hfr.2; omega
            have hcl' : ∀ y ∈ l ++ [(suf x t).1], Cl y := by
              intro y hy
              rcases List.mem_append.1 hy with h | h
              · exact hl y h
              · rw [List.mem_singleton] at h; rw [h]; exact hcs
            have := ih (suf x t).2 (l ++ [(suf x t).1]) L n (m + 1) k (by omega) (by omega) (by omega) (by omega) (fun q hq => hf q (by simp only [List.length_cons]; omega)) hcl' hL
            simp only
            rw [jnd_tog (.inl rfl) hl hcs]
            unfold runP at this ⊢
            rw [e1]
            exact this
end
theorem palt_len (n : Nat) (s : List UInt8) (h : s.length < n) : (pAlt n s).2.1.length ≤ s.length := (palt_sz n s h).2
theorem alt_fuel (f : List UInt8 → PR) (b : Bool) : ∀ (n m : Nat) (s : List UInt8) (l : List Ex), s.length ≤ n → s.length ≤ m → (∀ r : List UInt8, r.length ≤ s.length → (seqF f r.length r []).2.1.length ≤ r.length) → altF f n s b l = altF f m s b l := by
  intro n
  induction n generalizing b with
  | zero =>
    intro m s l hn hm hq
    have h0 : s = [] := List.length_eq_zero_iff.1 (by omega)
    subst h0
    cases m <;> rfl
  | succ n ih =>
    intro m s l hn hm hq
    match s, m, hn, hm, hq with
    | [], m, _, _, _ => cases m <;> rfl
    | c :: r, m + 1, hn, hm, hq =>
      simp only [List.length_cons] at hn hm
      have h1 := hq r (by simp)
      rw [altF, altF]
      split
      · split
        · exact ih true m r _ (by omega) (by omega) (fun q hl => hq q (by simp only [List.length_cons]; omega))
        · exact ih _ m _ _ (by omega) (by omega) (fun q hl => hq q (by simp only [List.length_cons]; omega))
      · rfl
theorem alt_rel : ∀ (n : Nat) (s : List UInt8), s.length < n → RelP (pAlt n s) (dAlt n s)
  | 0, s, h => absurd h (Nat.not_lt_zero _)
  | n + 1, s, h => by
    have hf : ∀ r : List UInt8, r.length < s.length → RelP (pAlt n r) (dAlt n r) ∧ (pAlt n r).2.1.length ≤ r.length := fun r hr => ⟨alt_rel n r (by omega), palt_len n r (by omega)⟩
    exact run_rel (f := pAlt n) (g := dAlt n) s.length s [] [] s.length s.length s.length (Nat.le_refl _) (Nat.le_refl _) (Nat.le_refl _) (Nat.le_refl _) hf (by simp) (by simp)
/-! ### The answers -/
def parseP (s : List UInt8) : Ex × Int :=
  if 40 < s.length then (.mk 0 0 [], 1)
  else if (pAlt 41 s).2.2 = true ∨ (pAlt 41 s).2.1 ≠ [] then (.mk 0 0 [], 4)
  else if exC (pAlt 41 s).1 ≠ 0 then (.mk 0 0 [], 4) else ((pAlt 41 s).1, 0)
def parseD (s : List UInt8) : Ex × Int :=
  if 40 < s.length then (.mk 0 0 [], 1)
  else match dAlt 41 s with
    | none => (.mk 0 0 [], 4)
    | some (x, t) => if t ≠ [] then (.mk 0 0 [], 4) else if exC x ≠ 0 then (.mk 0 0 [], 4) else (x, 0)
theorem parse_eq (s : List UInt8) : parseP s = parseD s := by
  unfold parseP parseD
  split
  · rfl
  · have h := alt_rel 41 s (by omega)
    unfold RelP at h
    generalize dAlt 41 s = q at h
    generalize pAlt 41 s = p at h
    match q, h with
    | none, h => rw [if_pos (.inl h)]
    | some (x, t), ⟨h, _, _⟩ =>
      subst h
      by_cases ht : t = []
      · simp [ht]
      · simp [ht]
end Go.Proofs.Yteappcclfjafeaa
