/- Two machines, pair by pair: the plain law of AutoSame. No conditions. -/
import Derived.Test.YtmjglpdfkkmcoaaData
set_option linter.unusedSimpArgs false
set_option linter.unusedVariables false
set_option maxRecDepth 100000
namespace Go.Proofs.Ytmjglpdfkkmcoaa

def stepI (T : List (List Int)) (x : Int) (c : Nat) : Int := if 0 ≤ x then ((T[x.toNat]?.getD [])[c]?).getD (-1) else -1
def finI (F : List Bool) (x : Int) : Bool := decide (0 ≤ x) && (F[x.toNat]?).getD false
def runI (T : List (List Int)) (x : Int) (w : List Nat) : Int := w.foldl (stepI T) x
def wordOk (w : List Nat) : Prop := ∀ c ∈ w, c < 8
/-- The two machines end alike upon every word. -/
def sameW (T1 : List (List Int)) (F1 : List Bool) (T2 : List (List Int)) (F2 : List Bool) : Prop := ∀ w, wordOk w → finI F1 (runI T1 0 w) = finI F2 (runI T2 0 w)
/-- What the pairs met are: reached, and closed. -/
structure Met (T1 T2 : List (List Int)) (L : List (Int × Int)) : Prop where
  first : ((0, 0) : Int × Int) ∈ L
  reached : ∀ p ∈ L, ∃ w, wordOk w ∧ p = (runI T1 0 w, runI T2 0 w)
  closed : ∀ p ∈ L, ∀ c, c < 8 → (stepI T1 p.1 c, stepI T2 p.2 c) ∈ L
theorem met_all {T1 T2 : List (List Int)} {L : List (Int × Int)} (h : Met T1 T2 L) : ∀ (w : List Nat) (p : Int × Int), p ∈ L → wordOk w → (runI T1 p.1 w, runI T2 p.2 w) ∈ L
  | [], p, hp, _ => hp
  | c :: w, p, hp, hw => met_all h w (stepI T1 p.1 c, stepI T2 p.2 c) (h.closed p hp c (hw c (by simp))) (fun d hd => hw d (by simp [hd]))
theorem met_same {T1 T2 : List (List Int)} {F1 F2 : List Bool} {L : List (Int × Int)} (h : Met T1 T2 L) : L.any (fun p => finI F1 p.1 != finI F2 p.2) = false ↔ sameW T1 F1 T2 F2 := by
  constructor
  · intro ha w hw
    have hm := met_all h w (0, 0) h.first hw
    have := List.any_eq_false.1 ha _ hm
    simpa using this
  · intro hs
    refine List.any_eq_false.2 fun p hp => ?_
    obtain ⟨w, hw, rfl⟩ := h.reached p hp
    simp [hs w hw]
/-- A table that is filled: sound, and closed under the rule. -/
structure Tab (next : Nat → Nat → Nat) (fin : Nat → Bool) (n : Nat) (D : Nat → Nat → Bool) : Prop where
  sound : ∀ i k, i < n → k < n → D i k = true → ∃ w, wordOk w ∧ fin (w.foldl next i) ≠ fin (w.foldl next k)
  base : ∀ i k, i < n → k < n → fin i ≠ fin k → D i k = true
  closed : ∀ i k c, i < n → k < n → c < 8 → D (next i c) (next k c) = true → D i k = true
theorem tab_all {next : Nat → Nat → Nat} {fin : Nat → Bool} {n : Nat} {D : Nat → Nat → Bool} (h : Tab next fin n D) (hn : ∀ i c, i < n → c < 8 → next i c < n) :
    ∀ (w : List Nat) (i k : Nat), i < n → k < n → wordOk w → fin (w.foldl next i) ≠ fin (w.foldl next k) → D i k = true
  | [], i, k, hi, hk, _, hf => h.base i k hi hk hf
  | c :: w, i, k, hi, hk, hw, hf => h.closed i k c hi hk (hw c (by simp)) (tab_all h hn w _ _ (hn i c hi (hw c (by simp))) (hn k c hk (hw c (by simp))) (fun d hd => hw d (by simp [hd])) hf)
theorem tab_iff {next : Nat → Nat → Nat} {fin : Nat → Bool} {n : Nat} {D : Nat → Nat → Bool} (h : Tab next fin n D) (hn : ∀ i c, i < n → c < 8 → next i c < n) {i k : Nat} (hi : i < n) (hk : k < n) :
    D i k = false ↔ ∀ w, wordOk w → fin (w.foldl next i) = fin (w.foldl next k) := by
  constructor
  · intro hd w hw
    refine Decidable.byContradiction fun hf => ?_
    have := tab_all h hn w i k hi hk hw hf
    rw [hd] at this
    cases this
  · intro ha
    cases hd : D i k with
    | false => rfl
    | true =>
      obtain ⟨w, hw, hf⟩ := h.sound i k hi hk hd
      exact absurd (ha w hw) hf
end Go.Proofs.Ytmjglpdfkkmcoaa
