/- Selectors as text: what both sides read; that they read the same. No conditions. -/
import Derived.Test.YtkkcmobnhiiacaaDoorPick
import Derived.Test.YtkkcmobnhiiacaaDoorPickText
set_option linter.unusedSimpArgs false
set_option linter.unusedVariables false
set_option maxRecDepth 100000
namespace Go.Proofs.YtkkcmobnhiiacaaDoor

abbrev Ys := List UInt8
def nmC (c : UInt8) : Bool := !badR c.toNat
/-! ### The document's reader -/
/-- One pick, and what is left. -/
def pkName (r : Ys) : Option (Ys × Ys) := if r.take 1 = [42] then some ([], r.drop 1) else if nameOk (r.takeWhile nmC) = true then some (r.takeWhile nmC, r.dropWhile nmC) else none
def pkAttr (r : Ys) : Option (Ys × Ys) := if r.take 1 = [91] then (if nameOk ((r.drop 1).takeWhile nmC) = true ∧ ((r.drop 1).dropWhile nmC).take 1 = [93] then some ((r.drop 1).takeWhile nmC, ((r.drop 1).dropWhile nmC).drop 1) else none) else some ([], r)
def pkDeep (first : Bool) (r : Ys) : Bool × Ys := if first = false ∧ r.take 2 = [62, 32] then (false, r.drop 2) else (true, r)
def pk1 (first : Bool) (r : Ys) : Option (Pk × Ys) := match pkName (pkDeep first r).2 with
  | none => none
  | some (n, r2) => match pkAttr r2 with
    | none => none
    | some (a, r3) => some ((n, a, (pkDeep first r).1), r3)
def strictL : Nat → List Pk → Ys → Option (List Pk)
  | 0, _, _ => none
  | f + 1, acc, r => match pk1 (decide (acc = [])) r with
    | none => none
    | some (p, r') => if r' = [] then some (acc ++ [p]) else if r'.take 1 = [32] then strictL f (acc ++ [p]) (r'.drop 1) else none
/-! ### The program's reader -/
def splitW : Ys → List Ys
  | [] => [[]]
  | c :: r => if c = 32 then [] :: splitW r else match splitW r with
    | [] => [[c]]
    | w :: ws => (c :: w) :: ws
def attrW (w : Ys) : Ys := if 91 ∈ w then (let a := (w.dropWhile (· ≠ 91)).drop 1; if a.getLast? = some 93 then a.dropLast else a) else []
def nameW (w : Ys) : Ys := let n := w.takeWhile (· ≠ 91); if n = [42] then [] else n
def wordsP : Bool → List Ys → List Pk
  | _, [] => []
  | d, w :: ws => if w = [62] then wordsP false ws else (nameW w, attrW w, d) :: wordsP true ws

/-! ### Names -/
theorem nmC_of {n : Ys} (h : nameOk n = true) : ∀ c ∈ n, nmC c = true := by
  unfold nameOk at h
  simp only [Bool.and_eq_true, Bool.not_eq_true', List.any_eq_false] at h
  intro c hc
  have := h.2 c hc
  simpa [nmC] using this
theorem name_ne {n : Ys} (h : nameOk n = true) : n ≠ [] := by
  intro e; subst e; simp [nameOk] at h
theorem nmC_not {c : UInt8} (h : c = 32 ∨ c = 62 ∨ c = 42 ∨ c = 91 ∨ c = 93) : nmC c = false := by
  rcases h with rfl | rfl | rfl | rfl | rfl <;> decide
theorem span_name {n rest : Ys} (h : nameOk n = true) (hr : ∀ c, rest.head? = some c → nmC c = false) : (n ++ rest).takeWhile nmC = n ∧ (n ++ rest).dropWhile nmC = rest := by
  have hn := nmC_of h
  clear h
  induction n with
  | nil =>
    cases rest with
    | nil => exact ⟨rfl, rfl⟩
    | cons c r =>
      have := hr c rfl
      simp [this]
  | cons x n ih =>
    have hx := hn x (by simp)
    obtain ⟨h1, h2⟩ := ih (fun c hc => hn c (by simp [hc]))
    simp [hx, h1, h2]
theorem pickBad_mk {n a : Ys} {d : Bool} : pickBad (n, a, d) = false ↔ (n = [] ∨ nameOk n = true) ∧ (a = [] ∨ nameOk a = true) := by
  unfold pickBad oddS
  by_cases h1 : n = [] <;> by_cases h2 : a = [] <;> simp [h1, h2]
/-- A pick as it is written, without what is ahead. -/
def bodyT (p : Pk) : Ys := pnameT p.1 ++ pattrT p.2.1
theorem body_good {p : Pk} (h : pickBad p = false) : ∃ c r, bodyT p = c :: r ∧ c ≠ 62 ∧ c ≠ 32 := by
  obtain ⟨n, a, d⟩ := p
  obtain ⟨h1, h2⟩ := pickBad_mk.1 h
  unfold bodyT pnameT
  rcases h1 with rfl | h1
  · exact ⟨42, _, rfl, by decide, by decide⟩
  · have hne := name_ne h1
    cases n with
    | nil => exact absurd rfl hne
    | cons x n =>
      refine ⟨x, n ++ pattrT a, by simp, ?_, ?_⟩
      · rintro rfl
        have := nmC_of h1 62 (by simp)
        rw [nmC_not (by simp)] at this; cases this
      · rintro rfl
        have := nmC_of h1 32 (by simp)
        rw [nmC_not (by simp)] at this; cases this
/-- B: what is written is read. -/
theorem pkName_txt {n rest : Ys} (h : n = [] ∨ nameOk n = true) (hr : ∀ c, rest.head? = some c → nmC c = false) : pkName (pnameT n ++ rest) = some (n, rest) := by
  unfold pkName pnameT
  rcases h with rfl | h
  · simp
  · obtain ⟨h1, h2⟩ := span_name h hr
    have hne := name_ne h
    have hns : ¬ (n ++ rest).take 1 = [42] := by
      cases n with
      | nil => exact absurd rfl hne
      | cons x n =>
        simp
        rintro rfl
        have := nmC_of h 42 (by simp)
        rw [nmC_not (by simp)] at this; cases this
    rw [if_neg hne, if_neg hns, h1, h2, if_pos h]
theorem pkAttr_txt {a rest : Ys} (h : a = [] ∨ nameOk a = true) (hr : ∀ c, rest.head? = some c → c = 32) : pkAttr (pattrT a ++ rest) = some (a, rest) := by
  unfold pkAttr pattrT
  rcases h with rfl | h
  · rw [if_pos rfl, List.nil_append, if_neg]
    intro e
    cases rest with
    | nil => simp at e
    | cons c r => simp at e; have := hr c rfl; rw [e] at this; exact absurd this (by decide)
  · have hne := name_ne h
    have hs := span_name (n := a) (rest := 93 :: rest) h (fun c hc => by simp at hc; subst hc; decide)
    have e1 : ([91] ++ a ++ [93] ++ rest).drop 1 = a ++ 93 :: rest := by simp
    rw [if_neg hne, if_pos (by simp), e1, hs.1, hs.2, if_pos ⟨h, by simp⟩]
    simp
theorem pk1_txt {p : Pk} {first : Bool} {rest : Ys} (hp : pickBad p = false) (hf : first = true → p.2.2 = true) (hr : ∀ c, rest.head? = some c → c = 32) : pk1 first ((if p.2.2 = true then [] else [62, 32]) ++ bodyT p ++ rest) = some (p, rest) := by
  obtain ⟨n, a, d⟩ := p
  obtain ⟨h1, h2⟩ := pickBad_mk.1 hp
  obtain ⟨c, r, hb, hc1, hc2⟩ := body_good hp
  have hdp : pkDeep first ((if d = true then [] else [62, 32]) ++ bodyT (n, a, d) ++ rest) = (d, bodyT (n, a, d) ++ rest) := by
    unfold pkDeep
    cases d with
    | true =>
      rw [if_neg]
      · simp
      · rintro ⟨_, h⟩
        rw [if_pos rfl, hb] at h
        simp at h
        cases r <;> simp_all
    | false =>
      have hff : first = false := by cases first; rfl; exact absurd (hf rfl) (by simp)
      rw [if_pos]
      · simp
      · exact ⟨hff, by simp⟩
  unfold pk1
  simp only at hdp ⊢
  rw [hdp]
  simp only
  unfold bodyT
  rw [List.append_assoc, pkName_txt h1 (fun c hc => ?_)]
  · simp only
    rw [pkAttr_txt h2 hr]
  · unfold pattrT at hc
    split at hc
    · rw [List.nil_append] at hc
      rw [hr c hc]; decide
    · simp at hc
      subst hc; decide
theorem txt_cons (k : Nat) (p : Pk) (l : List Pk) : txtFrom k (p :: l) = preT k p.2.2 ++ bodyT p ++ txtFrom (k + 1) l := by
  rw [txtFrom]; simp [bodyT]
theorem txt_head {k : Nat} (hk : 0 < k) (l : List Pk) : l = [] ∧ txtFrom k l = [] ∨ ∃ r, txtFrom k l = 32 :: r := by
  cases l with
  | nil => exact .inl ⟨rfl, rfl⟩
  | cons p l =>
    right
    rw [txt_cons]
    unfold preT
    rw [if_neg (by omega)]
    split <;> exact ⟨_, rfl⟩
/-- What stands behind the space ahead of a pick that is not the first one. -/
theorem strict_txt : ∀ (l : List Pk) (f : Nat) (acc : List Pk), l ≠ [] → l.length ≤ f → (∀ p ∈ l, pickBad p = false) → (acc = [] → ∀ p, l.head? = some p → p.2.2 = true) →
    strictL f acc ((txtFrom acc.length l).drop (if acc = [] then 0 else 1)) = some (acc ++ l)
  | [], _, _, h, _, _, _ => absurd rfl h
  | p :: l, 0, _, _, h, _, _ => by simp at h
  | p :: l, f + 1, acc, _, hf, hg, hd => by
    have hgp := hg p (by simp)
    have e0 : (txtFrom acc.length (p :: l)).drop (if acc = [] then 0 else 1) = (if p.2.2 = true then [] else [62, 32]) ++ bodyT p ++ txtFrom (acc.length + 1) l := by
      rw [txt_cons]
      unfold preT
      by_cases ha : acc = []
      · subst ha
        simp [hd rfl p rfl]
      · rw [if_neg (show ¬ acc.length = 0 from fun h => ha (List.eq_nil_of_length_eq_zero h)), if_neg ha]
        cases p.2.2 <;> simp
    have hrest : ∀ c, (txtFrom (acc.length + 1) l).head? = some c → c = 32 := fun c hc => by
      rcases txt_head (k := acc.length + 1) (by omega) l with ⟨_, h⟩ | ⟨r, h⟩
      · rw [h] at hc; cases hc
      · rw [h] at hc; simp at hc; exact hc.symm
    rw [e0, strictL, pk1_txt hgp (fun h => by simp at h; exact hd h p rfl) hrest]
    simp only
    cases l with
    | nil => rw [if_pos (by simp [txtFrom])]
    | cons q l =>
      have hz : txtFrom (acc.length + 1) (q :: l) ≠ [] := by
        rcases txt_head (k := acc.length + 1) (by omega) (q :: l) with ⟨h, _⟩ | ⟨r, h⟩
        · cases h
        · rw [h]; simp
      rw [if_neg hz]
      rcases txt_head (k := acc.length + 1) (by omega) (q :: l) with ⟨h, _⟩ | ⟨r, h⟩
      · cases h
      · rw [if_pos (by rw [h]; rfl)]
        have ih := strict_txt (q :: l) f (acc ++ [p]) (by simp) (by simpa using hf) (fun x hx => hg x (by simp [hx])) (fun h => by simp at h)
        simp only [List.length_append, List.length_singleton] at ih
        rw [if_neg (by simp)] at ih
        rw [ih]
        simp
/-- A: what is read was written so. -/
theorem pkName_inv {r n r2 : Ys} (h : pkName r = some (n, r2)) : (n = [] ∨ nameOk n = true) ∧ r = pnameT n ++ r2 := by
  unfold pkName at h
  split at h
  · rename_i h1
    cases h
    refine ⟨.inl rfl, ?_⟩
    cases r with
    | nil => simp at h1
    | cons c r => simp at h1; subst h1; simp [pnameT]
  · split at h
    · rename_i h1
      cases h
      refine ⟨.inr h1, ?_⟩
      rw [pnameT, if_neg (name_ne h1), List.takeWhile_append_dropWhile]
    · cases h
theorem pkAttr_inv {r a r3 : Ys} (h : pkAttr r = some (a, r3)) : (a = [] ∨ nameOk a = true) ∧ r = pattrT a ++ r3 := by
  unfold pkAttr at h
  split at h
  · rename_i h1
    split at h
    · rename_i h2
      cases h
      refine ⟨.inr h2.1, ?_⟩
      rw [pattrT, if_neg (name_ne h2.1)]
      cases r with
      | nil => simp at h1
      | cons c r =>
        simp at h1
        subst h1
        simp only [List.drop_succ_cons, List.drop_zero] at h2 ⊢
        have h3 := h2.2
        have h4 := List.takeWhile_append_dropWhile (p := nmC) (l := r)
        cases hd : r.dropWhile nmC with
        | nil => rw [hd] at h3; simp at h3
        | cons c q =>
          rw [hd] at h3 h4
          simp at h3
          subst h3
          simp [h4]
    · cases h
  · cases h; exact ⟨.inl rfl, by simp [pattrT]⟩
theorem pk1_inv {first : Bool} {r r' : Ys} {p : Pk} (h : pk1 first r = some (p, r')) : pickBad p = false ∧ (first = true → p.2.2 = true) ∧ r = (if p.2.2 = true then [] else [62, 32]) ++ bodyT p ++ r' := by
  unfold pk1 at h
  split at h
  · cases h
  · rename_i n r2 hn
    split at h
    · cases h
    · rename_i a r3 ha
      cases h
      obtain ⟨h1, h2⟩ := pkName_inv hn
      obtain ⟨h3, h4⟩ := pkAttr_inv ha
      refine ⟨pickBad_mk.2 ⟨h1, h3⟩, fun hf => ?_, ?_⟩
      · subst hf; simp [pkDeep]
      · unfold bodyT
        simp only
        rw [List.append_assoc, List.append_assoc, ← h4, ← h2]
        unfold pkDeep
        split
        · rename_i hh
          have := List.take_append_drop 2 r
          rw [hh.2] at this
          simpa using this.symm
        · simp
theorem strict_inv : ∀ (f : Nat) (acc : List Pk) (r : Ys) (l : List Pk), strictL f acc r = some l → ∃ l', l = acc ++ l' ∧ l' ≠ [] ∧ (∀ p ∈ l', pickBad p = false) ∧ (acc = [] → ∀ p, l'.head? = some p → p.2.2 = true) ∧ txtFrom acc.length l' = (if acc = [] then [] else [32]) ++ r
  | 0, _, _, _, h => by cases h
  | f + 1, acc, r, l, h => by
    rw [strictL] at h
    split at h
    · cases h
    · rename_i p r' hp
      obtain ⟨h1, h2, h3⟩ := pk1_inv hp
      have hpre : preT acc.length p.2.2 ++ bodyT p ++ r' = (if acc = [] then [] else [32]) ++ r := by
        rw [h3]
        unfold preT
        by_cases ha : acc = []
        · subst ha
          have := h2 (by simp)
          simp [this]
        · rw [if_neg (show ¬ acc.length = 0 from fun h => ha (List.eq_nil_of_length_eq_zero h)), if_neg ha]
          cases p.2.2 <;> simp
      split at h
      · rename_i hr
        cases h
        subst hr
        refine ⟨[p], rfl, by simp, by simpa using h1, fun ha q hq => ?_, ?_⟩
        · simp at hq; subst hq; exact h2 (by simp [ha])
        · rw [txt_cons]; simpa [txtFrom] using hpre
      · split at h
        · rename_i hr
          obtain ⟨l', e1, e2, e3, e4, e5⟩ := strict_inv f (acc ++ [p]) (r'.drop 1) l h
          refine ⟨p :: l', by rw [e1]; simp, by simp, fun q hq => ?_, fun ha q hq => ?_, ?_⟩
          · rcases List.mem_cons.1 hq with rfl | hq
            · exact h1
            · exact e3 q hq
          · simp at hq; subst hq; exact h2 (by simp [ha])
          · rw [txt_cons, ← hpre]
            simp only [List.length_append, List.length_singleton] at e5
            rw [e5, if_neg (by simp)]
            congr 1
            cases r' with
            | nil => simp at hr
            | cons c q => simp at hr; subst hr; rfl
        · cases h
end Go.Proofs.YtkkcmobnhiiacaaDoor
