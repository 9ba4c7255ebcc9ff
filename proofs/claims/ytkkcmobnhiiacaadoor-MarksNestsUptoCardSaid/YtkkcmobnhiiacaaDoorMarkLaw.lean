/- Marks: plain laws. No conditions. -/
import Derived.Test.YtkkcmobnhiiacaaDoorNameMay
import Derived.Test.YtkkcmobnhiiacaaDoorData
set_option linter.unusedSimpArgs false
set_option linter.unusedVariables false
set_option maxRecDepth 100000
namespace Go.Proofs.YtkkcmobnhiiacaaDoor
open Go.RowKit

def oddL : List (List UInt8) := [[98, 114], [104, 114], [105, 109, 103], [105, 110, 112, 117, 116], [115, 99, 114, 105, 112, 116], [115, 116, 121, 108, 101], [116, 101, 120, 116, 97, 114, 101, 97], [116, 105, 116, 108, 101]]
def badM (m : List UInt8) : Bool := !nameOk m || decide (m ∈ oddL)
/-- What is refused of marks. -/
def marksCode (L : List (List UInt8)) : Int := if 4 < L.length then 1 else if L.any badM = true then 5 else if L.Nodup then 0 else 8
theorem marks_big {L : List (List UInt8)} (h : 4 < L.length) : marksCode L = 1 := if_pos h
theorem marks_bad {L : List (List UInt8)} (h : ¬ 4 < L.length) (hb : L.any badM = true) : marksCode L = 5 := by unfold marksCode; rw [if_neg h, if_pos hb]
theorem marks_ok {L : List (List UInt8)} (h : ¬ 4 < L.length) (hb : L.any badM = false) : marksCode L = if L.Nodup then 0 else 8 := by unfold marksCode; rw [if_neg h, if_neg (by rw [hb]; simp)]
theorem nodup_take (L : List (List UInt8)) : L.Nodup ↔ ∀ (i : Nat) (x : List UInt8), L[i]? = some x → ¬ x ∈ L.take i := by
  unfold List.Nodup
  rw [List.pairwise_iff_getElem]
  constructor
  · intro h i x hx hm
    obtain ⟨hi, rfl⟩ := List.getElem?_eq_some_iff.1 hx
    obtain ⟨j, hj⟩ := List.mem_iff_getElem?.1 hm
    rw [List.getElem?_take] at hj
    split at hj
    · rename_i hji
      obtain ⟨hj', e⟩ := List.getElem?_eq_some_iff.1 hj
      exact h j i hj' hi hji e
    · cases hj
  · intro h i j hi hj hij e
    exact h j _ (List.getElem?_eq_getElem hj) (List.mem_iff_getElem?.2 ⟨i, by rw [List.getElem?_take, if_pos hij, List.getElem?_eq_getElem hi, e]⟩)
theorem nodup_all (L : List (List UInt8)) : L.Nodup ↔ ∀ (i k : Nat) (x : List UInt8), i ≠ k → L[i]? = some x → L[k]? = some x → False := by
  rw [nodup_take]
  constructor
  · intro h i k x hik hi hk
    rcases Nat.lt_or_ge i k with hl | hl
    · exact h k x hk (List.mem_iff_getElem?.2 ⟨i, by rw [List.getElem?_take, if_pos hl, hi]⟩)
    · exact h i x hi (List.mem_iff_getElem?.2 ⟨k, by rw [List.getElem?_take, if_pos (by omega), hk]⟩)
  · intro h i x hx hm
    obtain ⟨j, hj⟩ := List.mem_iff_getElem?.1 hm
    rw [List.getElem?_take] at hj
    split at hj
    · exact h j i x (by omega) hj hx
    · cases hj

/-! ### Runs -/
structure Rn where
  text : List UInt8
  marks : List (List UInt8)
def rnA (r : Rn) : V := .agg [.str r.text, .lst (r.marks.map V.str)]
def keepM (L ms : List (List UInt8)) : List (List UInt8) := L.filter fun m => decide (m ∈ ms)
def normR (L : List (List UInt8)) (r : Rn) : Rn := ⟨r.text, keepM L r.marks⟩
/-- A run behind others. -/
def addR (out : List Rn) (r : Rn) : List Rn := match out.getLast? with
  | some q => if q.marks = r.marks then out.dropLast ++ [⟨q.text ++ r.text, q.marks⟩] else if r.text = [] then out else out ++ [r]
  | none => if r.text = [] then out else out ++ [r]
def okR (L : List (List UInt8)) (r : Rn) : Bool := r.marks.all fun m => decide (m ∈ L)
def normL (L : List (List UInt8)) (l : List Rn) : List Rn := (l.map (normR L)).foldl addR []
theorem addR_nil (r : Rn) : addR [] r = if r.text = [] then [] else [r] := rfl
theorem addR_same (o : List Rn) (q r : Rn) (h : q.marks = r.marks) : addR (o ++ [q]) r = o ++ [⟨q.text ++ r.text, q.marks⟩] := by
  unfold addR
  rw [List.getLast?_concat]
  simp only
  rw [if_pos h, List.dropLast_concat]
theorem addR_other (o : List Rn) (q r : Rn) (h : ¬ q.marks = r.marks) : addR (o ++ [q]) r = if r.text = [] then o ++ [q] else o ++ [q] ++ [r] := by
  unfold addR
  rw [List.getLast?_concat]
  simp only
  rw [if_neg h]
theorem rn_last (out : List Rn) : out = [] ∨ ∃ o q, out = o ++ [q] := by
  rcases List.eq_nil_or_concat out with h | ⟨o, x, h⟩
  · exact .inl h
  · exact .inr ⟨o, x, by simpa using h⟩
theorem addR_last (out : List Rn) {r : Rn} (h : ¬ r.text = []) : ∃ o q, addR out r = o ++ [q] ∧ q.marks = r.marks := by
  rcases rn_last out with ho | ⟨o, q, ho⟩
  · rw [ho, addR_nil, if_neg h]; exact ⟨[], r, rfl, rfl⟩
  · by_cases hm : q.marks = r.marks
    · rw [ho, addR_same o q r hm]; exact ⟨o, _, rfl, hm⟩
    · rw [ho, addR_other o q r hm, if_neg h]; exact ⟨o ++ [q], r, rfl, rfl⟩
theorem addR_bytes (ms : List (List UInt8)) (t : List UInt8) : ∀ out : List Rn, (t.map fun b => (⟨[b], ms⟩ : Rn)).foldl addR out = addR out ⟨t, ms⟩ := by
  induction t with
  | nil =>
    intro out
    rcases rn_last out with ho | ⟨o, q, ho⟩
    · rw [ho]; rfl
    · by_cases hm : q.marks = ms
      · rw [ho, addR_same o q ⟨[], ms⟩ hm]; simp
      · rw [ho, addR_other o q ⟨[], ms⟩ hm]; rfl
  | cons b t ih =>
    intro out
    rw [List.map_cons, List.foldl_cons, ih]
    rcases rn_last out with ho | ⟨o, q, ho⟩
    · rw [ho, addR_nil, addR_nil, if_neg (by simp), if_neg (by simp)]
      exact addR_same [] ⟨[b], ms⟩ ⟨t, ms⟩ rfl
    · by_cases hm : q.marks = ms
      · rw [ho, addR_same o q ⟨[b], ms⟩ hm, addR_same o q ⟨b :: t, ms⟩ hm]
        refine (addR_same o ⟨q.text ++ [b], q.marks⟩ ⟨t, ms⟩ hm).trans ?_
        simp
      · rw [ho, addR_other o q ⟨[b], ms⟩ hm, addR_other o q ⟨b :: t, ms⟩ hm, if_neg (by simp), if_neg (by simp)]
        exact addR_same (o ++ [q]) ⟨[b], ms⟩ ⟨t, ms⟩ rfl
/-! ### Byte by byte -/
def flatB (l : List Rn) : List (UInt8 × Rn) := l.flatMap fun r => r.text.map fun b => (b, r)
theorem flatB_norm (L : List (List UInt8)) (l : List Rn) : ∀ out : List Rn, ((flatB l).map fun p => (⟨[p.1], keepM L p.2.marks⟩ : Rn)).foldl addR out = (l.map (normR L)).foldl addR out := by
  induction l with
  | nil => intro out; rfl
  | cons r l ih =>
    intro out
    have h : flatB (r :: l) = (r.text.map fun b => (b, r)) ++ flatB l := by simp [flatB]
    rw [h, List.map_append, List.foldl_append, ih, List.map_cons, List.foldl_cons]
    congr 1
    rw [List.map_map]
    exact addR_bytes (keepM L r.marks) r.text out
/-- Four answers as a number. -/
def setB (f : Nat → Bool) : Nat := cond (f 0) 1 0 + cond (f 1) 2 0 + cond (f 2) 4 0 + cond (f 3) 8 0
theorem setB_lt (f : Nat → Bool) : setB f < 16 := by
  unfold setB
  cases f 0 <;> cases f 1 <;> cases f 2 <;> cases f 3 <;> decide
theorem setB_eq {f g : Nat → Bool} : setB f = setB g ↔ ∀ k < 4, f k = g k := by
  constructor
  · intro h k hk
    have h0 : ∀ a b c d a' b' c' d' : Bool, cond a 1 0 + cond b 2 0 + cond c 4 0 + cond d 8 0 = cond a' 1 0 + cond b' 2 0 + cond c' 4 0 + cond d' 8 0 → a = a' ∧ b = b' ∧ c = c' ∧ d = d' := by decide
    obtain ⟨e0, e1, e2, e3⟩ := h0 _ _ _ _ _ _ _ _ h
    match k, hk with
    | 0, _ => exact e0
    | 1, _ => exact e1
    | 2, _ => exact e2
    | 3, _ => exact e3
  · intro h
    unfold setB
    rw [h 0 (by decide), h 1 (by decide), h 2 (by decide), h 3 (by decide)]
def hasM (L ms : List (List UInt8)) (k : Nat) : Bool := match L[k]? with
  | some m => decide (m ∈ ms)
  | none => false
theorem hasM_keep {L a b : List (List UInt8)} (h4 : L.length ≤ 4) : setB (hasM L a) = setB (hasM L b) ↔ keepM L a = keepM L b := by
  rw [setB_eq]
  constructor
  · intro h
    unfold keepM
    apply List.filter_congr
    intro m hm
    obtain ⟨k, hk⟩ := List.mem_iff_getElem?.1 hm
    have := h k (by have := (List.getElem?_eq_some_iff.1 hk).1; omega)
    unfold hasM at this
    rw [hk] at this
    exact this
  · intro h k _
    unfold hasM
    cases hk : L[k]? with
    | none => rfl
    | some m =>
      have hm : m ∈ L := List.mem_of_getElem? hk
      have e : ∀ c : List (List UInt8), decide (m ∈ c) = decide (m ∈ keepM L c) := fun c => by
        congr 1
        simp [keepM, hm]
      simp only
      rw [e a, e b, h]
def normCode (L : List (List UInt8)) (l : List Rn) : Int := if marksCode L ≠ 0 then marksCode L else if 60 < l.length then 1 else if l.all (okR L) = true then 0 else 5
end Go.Proofs.YtkkcmobnhiiacaaDoor
