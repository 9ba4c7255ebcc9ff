/- Selectors as text: the program's words; both readers answer alike. No conditions. -/
import Derived.Test.YtkkcmobnhiiacaaDoorPpLaw
set_option linter.unusedSimpArgs false
set_option linter.unusedVariables false
set_option maxRecDepth 100000
namespace Go.Proofs.YtkkcmobnhiiacaaDoor

theorem split_no {w : Ys} (h : 32 ∉ w) : splitW w = [w] := by
  induction w with
  | nil => rfl
  | cons c w ih =>
    simp at h
    rw [splitW, if_neg (fun e => h.1 e.symm), ih h.2]
theorem split_at {w r : Ys} (h : 32 ∉ w) : splitW (w ++ 32 :: r) = w :: splitW r := by
  induction w with
  | nil => rw [List.nil_append, splitW, if_pos rfl]
  | cons c w ih =>
    simp at h
    rw [List.cons_append, splitW, if_neg (fun e => h.1 e.symm), ih h.2]
theorem name_not {n : Ys} (h : n = [] ∨ nameOk n = true) {c : UInt8} (hc : c = 32 ∨ c = 62 ∨ c = 91 ∨ c = 93) : c ∉ pnameT n := by
  unfold pnameT
  rcases h with rfl | h
  · rcases hc with rfl | rfl | rfl | rfl <;> simp
  · rw [if_neg (name_ne h)]
    intro hm
    have := nmC_of h c hm
    rw [nmC_not (by rcases hc with h | h | h | h <;> simp [h])] at this
    cases this
theorem attr_not {a : Ys} (h : a = [] ∨ nameOk a = true) {c : UInt8} (hc : c = 32 ∨ c = 62) : c ∉ pattrT a := by
  unfold pattrT
  rcases h with rfl | h
  · simp
  · rw [if_neg (name_ne h)]
    intro hm
    simp at hm
    rcases hm with rfl | hm | rfl
    · rcases hc with h | h <;> exact absurd h (by decide)
    · have := nmC_of h c hm
      rw [nmC_not (by rcases hc with h | h <;> simp [h])] at this
      cases this
    · rcases hc with h | h <;> exact absurd h (by decide)
theorem body_space {p : Pk} (h : pickBad p = false) : 32 ∉ bodyT p := by
  obtain ⟨n, a, d⟩ := p
  obtain ⟨h1, h2⟩ := pickBad_mk.1 h
  unfold bodyT
  intro hm
  rcases List.mem_append.1 hm with hm | hm
  · exact name_not h1 (.inl rfl) hm
  · exact attr_not h2 (.inl rfl) hm
theorem take_no {n rest : Ys} (h : 91 ∉ n) : (n ++ 91 :: rest).takeWhile (· ≠ 91) = n ∧ (n ++ 91 :: rest).dropWhile (· ≠ 91) = 91 :: rest := by
  induction n with
  | nil => simp
  | cons c n ih =>
    simp at h
    obtain ⟨h1, h2⟩ := ih h.2
    have hc : ¬ c = 91 := fun e => h.1 e.symm
    constructor
    · simpa [hc] using h1
    · simpa [hc] using h2
theorem take_all {n : Ys} (h : 91 ∉ n) : n.takeWhile (· ≠ 91) = n := by
  induction n with
  | nil => rfl
  | cons c n ih =>
    simp at h
    have hc : ¬ c = 91 := fun e => h.1 e.symm
    simpa [hc] using ih h.2
theorem star_name {n : Ys} (h : n = [] ∨ nameOk n = true) : (if pnameT n = [42] then [] else pnameT n) = n := by
  unfold pnameT
  rcases h with rfl | h
  · simp
  · rw [if_neg (name_ne h), if_neg]
    rintro rfl
    have := nmC_of h 42 (by simp)
    rw [nmC_not (by simp)] at this; cases this
theorem word_body {p : Pk} (h : pickBad p = false) : nameW (bodyT p) = p.1 ∧ attrW (bodyT p) = p.2.1 ∧ bodyT p ≠ [62] := by
  obtain ⟨c, r, hb, hc, _⟩ := body_good h
  obtain ⟨n, a, d⟩ := p
  obtain ⟨h1, h2⟩ := pickBad_mk.1 h
  have hn := name_not h1 (c := 91) (by simp)
  refine ⟨?_, ?_, by rw [hb]; simp [hc]⟩
  · unfold nameW bodyT
    simp only
    by_cases ha : a = []
    · have : pattrT a = [] := by unfold pattrT; rw [if_pos ha]
      rw [this, List.append_nil, take_all hn]
      exact star_name h1
    · have : pattrT a = 91 :: (a ++ [93]) := by unfold pattrT; rw [if_neg ha]; simp
      rw [this, (take_no hn).1]
      exact star_name h1
  · unfold attrW bodyT
    simp only
    by_cases ha : a = []
    · have : pattrT a = [] := by unfold pattrT; rw [if_pos ha]
      rw [this, List.append_nil, if_neg hn, ha]
    · have : pattrT a = 91 :: (a ++ [93]) := by unfold pattrT; rw [if_neg ha]; simp
      rw [this, if_pos (by simp), (take_no hn).2]
      simp
/-- C: the words of what is written are the picks. -/
theorem words_txt : ∀ (l : List Pk) (k : Nat) (w : Ys), 0 < k → (∀ p ∈ l, pickBad p = false) → 32 ∉ w → ∃ ws, splitW (w ++ txtFrom k l) = w :: ws ∧ wordsP true ws = l
  | [], k, w, _, _, hw => ⟨[], by simp [txtFrom, split_no hw], rfl⟩
  | q :: l, k, w, hk, hg, hw => by
    have hgq := hg q (by simp)
    obtain ⟨ws, h1, h2⟩ := words_txt l (k + 1) (bodyT q) (by omega) (fun p hp => hg p (by simp [hp])) (body_space hgq)
    obtain ⟨g1, g2, g3⟩ := word_body hgq
    rw [txt_cons]
    unfold preT
    rw [if_neg (by omega)]
    cases hd : q.2.2 with
    | true =>
      refine ⟨bodyT q :: ws, ?_, ?_⟩
      · rw [if_pos rfl, ← h1, ← split_at hw]; simp
      · rw [wordsP, if_neg g3, h2, g1, g2, ← hd]
    | false =>
      refine ⟨[62] :: bodyT q :: ws, ?_, ?_⟩
      · rw [if_neg (by simp), ← h1, ← split_at (w := [62]) (by simp), ← split_at hw]; simp
      · rw [wordsP, if_pos rfl, wordsP, if_neg g3, h2, g1, g2, ← hd]
theorem words_all {l : List Pk} (hne : l ≠ []) (hg : ∀ p ∈ l, pickBad p = false) (hd : ∀ p, l.head? = some p → p.2.2 = true) : wordsP true (splitW (txtFrom 0 l)) = l := by
  cases l with
  | nil => exact absurd rfl hne
  | cons p l =>
    have hgp := hg p (by simp)
    obtain ⟨ws, h1, h2⟩ := words_txt l 1 (bodyT p) (by omega) (fun q hq => hg q (by simp [hq])) (body_space hgp)
    obtain ⟨g1, g2, g3⟩ := word_body hgp
    have : txtFrom 0 (p :: l) = bodyT p ++ txtFrom 1 l := by rw [txt_cons]; simp [preT]
    rw [this, h1, wordsP, if_neg g3, h2, g1, g2, ← hd p rfl]
theorem txt_len : ∀ (l : List Pk) (k : Nat), l.length ≤ (txtFrom k l).length
  | [], k => by simp
  | p :: l, k => by
    have ih := txt_len l (k + 1)
    have : 1 ≤ (bodyT p).length := by
      unfold bodyT pnameT
      split
      · simp
      · have := List.length_pos_iff.2 ‹¬ p.1 = []›
        simp only [List.length_append]; omega
    rw [txt_cons]
    simp only [List.length_cons, List.length_append]
    omega
/-- What the program answers; what the document says. -/
def ppProg (s : Ys) : Except Int (List Pk) := if 600 < s.length then .error 1 else if pickF (wordsP true (splitW s)) ≠ 0 ∨ txtFrom 0 (wordsP true (splitW s)) ≠ s then .error 4 else .ok (wordsP true (splitW s))
def ppRef (s : Ys) : Except Int (List Pk) := if 600 < s.length then .error 1 else match strictL (s.length + 1) [] s with
  | none => .error 4
  | some l => if pickF l ≠ 0 then .error 4 else .ok l
theorem pp_same (s : Ys) : ppProg s = ppRef s := by
  unfold ppProg ppRef
  by_cases h6 : 600 < s.length
  · rw [if_pos h6, if_pos h6]
  rw [if_neg h6, if_neg h6]
  cases hs : strictL (s.length + 1) [] s with
  | some l =>
    obtain ⟨l', e1, e2, e3, e4, e5⟩ := strict_inv _ [] s l hs
    rw [List.nil_append] at e1
    subst e1
    simp only [List.length_nil, if_true, List.nil_append] at e5
    have hw := words_all e2 e3 (e4 rfl)
    rw [e5] at hw
    simp only
    rw [hw, e5]
    by_cases hf : pickF l ≠ 0
    · rw [if_pos (.inl hf), if_pos hf]
    · rw [if_neg (fun h => h.elim hf (fun h => h rfl)), if_neg hf]
  | none =>
    simp only
    rw [if_pos]
    by_cases hf : pickF (wordsP true (splitW s)) ≠ 0
    · exact .inl hf
    · right
      intro ht
      have hf0 : pickF (wordsP true (splitW s)) = 0 := by omega
      obtain ⟨h1, h2, h3⟩ := pickF_ok hf0
      generalize wordsP true (splitW s) = l at *
      have hne : l ≠ [] := fun e => h1 (by rw [e]; rfl)
      cases l with
      | nil => exact absurd rfl hne
      | cons p l =>
        have e : txtFrom 0 (p :: l) = txtFrom 0 ((p.1, p.2.1, true) :: l) := by rw [txt_cons, txt_cons]; simp [preT, bodyT]
        have hl := txt_len (p :: l) 0
        rw [ht] at hl
        have hgp := h3 p (by simp)
        have := strict_txt ((p.1, p.2.1, true) :: l) (s.length + 1) [] (by simp) (by simp only [List.length_cons] at hl ⊢; omega) (fun q hq => by
          rcases List.mem_cons.1 hq with rfl | hq
          · exact hgp
          · exact h3 q (by simp [hq])) (fun _ q hq => by simp at hq; subst hq; rfl)
        simp only [List.length_nil, if_true, List.drop_zero, List.nil_append] at this
        rw [← e, ht, hs] at this
        cases this
end Go.Proofs.YtkkcmobnhiiacaaDoor
