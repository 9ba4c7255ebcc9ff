/- Nodes by rules: plain laws. No conditions. -/
import Derived.Test.YteekfmflecgjmaaRulesLaw
import Derived.Test.YteekfmflecgjmaaSpM
set_option linter.unusedSimpArgs false
set_option linter.unusedVariables false
set_option maxRecDepth 100000
namespace Go.Proofs.Yteekfmflecgjmaa
open Go.RowKit

def txN (t : List UInt8) : Nd := .mk [] [] t []
/-- A node behind others: texts side by side are one. -/
def addN (out : List Nd) (x : Nd) : List Nd := if x.name = [] then (match out.getLast? with
  | some (.mk n a t ps) => if n = [] then out.dropLast ++ [.mk n a (t ++ x.text) ps] else out ++ [x]
  | none => out ++ [x]) else out ++ [x]
def joinL (out more : List Nd) : List Nd := more.foldl addN out
theorem addN_elem {x : Nd} (h : ¬ x.name = []) (out : List Nd) : addN out x = out ++ [x] := if_neg h
theorem addN_nil (x : Nd) : addN [] x = [x] := by unfold addN; split <;> rfl
theorem addN_after {n : List UInt8} (hn : ¬ n = []) (o : List Nd) (a : List Atr) (t : List UInt8) (ps : List Nd) (x : Nd) : addN (o ++ [.mk n a t ps]) x = o ++ [.mk n a t ps] ++ [x] := by
  unfold addN
  rw [List.getLast?_concat]
  simp only
  rw [if_neg hn]
  split <;> rfl
theorem addN_text (o : List Nd) (a : List Atr) (t : List UInt8) (ps : List Nd) {x : Nd} (h : x.name = []) : addN (o ++ [.mk [] a t ps]) x = o ++ [.mk [] a (t ++ x.text) ps] := by
  unfold addN
  rw [if_pos h, List.getLast?_concat]
  simp
theorem joinL_step {out more : List Nd} {k : Nat} {x : Nd} (hx : more[k]? = some x) : joinL out (more.take (k + 1)) = addN (joinL out (more.take k)) x := by
  unfold joinL
  rw [List.take_add_one, hx, List.foldl_append]
  rfl
/-! ### How much -/
def cL (l : List Nd) : Nat := (l.map fun x => 1 + x.text.length).sum
theorem cL_append (a b : List Nd) : cL (a ++ b) = cL a + cL b := by unfold cL; rw [List.map_append, List.sum_append]
theorem cL_one (x : Nd) : cL [x] = 1 + x.text.length := by simp [cL]
theorem cL_len (l : List Nd) : l.length ≤ cL l := by
  induction l with
  | nil => simp
  | cons x l ih => simp only [cL, List.map_cons, List.sum_cons, List.length_cons] at ih ⊢; omega
theorem cL_mem {l : List Nd} {x : Nd} (h : x ∈ l) : 1 + x.text.length ≤ cL l := by
  induction l with
  | nil => cases h
  | cons y l ih =>
    simp only [cL, List.map_cons, List.sum_cons] at ih ⊢
    rcases List.mem_cons.1 h with e | e
    · subst e; omega
    · have := ih e; omega
theorem cL_addN (out : List Nd) (x : Nd) : cL (addN out x) ≤ cL out + (1 + x.text.length) := by
  by_cases h : x.name = []
  · rcases last_cases out with ho | ⟨o, y, ho⟩
    · rw [ho, addN_nil, cL_one]; omega
    · obtain ⟨n, a, t, ps⟩ := y
      by_cases hn : n = []
      · subst hn
        rw [ho, addN_text o a t ps h, cL_append, cL_append, cL_one, cL_one]
        simp only [Nd.text, List.length_append]
        omega
      · rw [ho, addN_after hn, cL_append, cL_one]; omega
  · rw [addN_elem h, cL_append, cL_one]; omega
theorem cL_take {l : List Nd} {k : Nat} {x : Nd} (hx : l[k]? = some x) : cL (l.take (k + 1)) = cL (l.take k) + (1 + x.text.length) := by
  rw [List.take_add_one, hx, cL_append]; simp [cL]
theorem cL_take_le (l : List Nd) (k : Nat) : cL (l.take k) ≤ cL l := by
  have h := cL_append (l.take k) (l.drop k)
  rw [List.take_append_drop] at h
  omega
theorem cL_joinL (more : List Nd) : ∀ out : List Nd, cL (joinL out more) ≤ cL out + cL more := by
  induction more with
  | nil => intro out; simp [joinL, cL]
  | cons x l ih =>
    intro out
    have h1 := ih (addN out x)
    have h2 := cL_addN out x
    have h3 : cL (x :: l) = (1 + x.text.length) + cL l := by simp [cL]
    have h4 : joinL out (x :: l) = joinL (addN out x) l := rfl
    rw [h3, h4]; omega
/-! ### The rule of a name -/
def ruleOf (l : List Ru) (n : List UInt8) : Option Ru := l.find? fun q => decide (q.1 = n)
def doOf (l : List Ru) (n : List UInt8) : Int := match ruleOf l n with | some r => r.2.1 | none => 2
def toOf (l : List Ru) (n : List UInt8) : List UInt8 := match ruleOf l n with | some r => r.2.2 | none => []
mutual
def ofN (l : List Ru) : Nd → List Nd → List Nd
  | .mk n a t ps, out => if n = [] then (if t = [] then out else addN out (txN t)) else if doOf l n = 1 then out ++ [.mk (toOf l n) a [] (ofL l ps [])] else if doOf l n = 2 then joinL out (ofL l ps []) else out
def ofL (l : List Ru) : List Nd → List Nd → List Nd
  | [], out => out
  | x :: xs, out => ofL l xs (ofN l x out)
end
def mgT (t : List UInt8) : List Nd → List Nd
  | [] => if t = [] then [] else [txN t]
  | x :: xs => if x.name = [] then mgT (t ++ x.text) xs else (if t = [] then [] else [txN t]) ++ x :: mgT [] xs
mutual
def rdN (l : List Ru) : Nd → List Nd
  | .mk n a t ps => if n = [] then [txN t] else if doOf l n = 1 then [.mk (toOf l n) a [] (mgT [] (rdL l ps))] else if doOf l n = 2 then rdL l ps else []
def rdL (l : List Ru) : List Nd → List Nd
  | [] => []
  | x :: xs => rdN l x ++ rdL l xs
end
theorem ofL_step {l : List Ru} {ns : List Nd} {k : Nat} {x : Nd} (hx : ns[k]? = some x) (out : List Nd) : ofL l (ns.drop k) out = ofL l (ns.drop (k + 1)) (ofN l x out) := by
  obtain ⟨hlt, rfl⟩ := List.getElem?_eq_some_iff.1 hx
  rw [List.drop_eq_getElem_cons hlt, ofL]
theorem rdL_step {l : List Ru} {ns : List Nd} {k : Nat} {x : Nd} (hx : ns[k]? = some x) : rdL l (ns.drop k) = rdN l x ++ rdL l (ns.drop (k + 1)) := by
  obtain ⟨hlt, rfl⟩ := List.getElem?_eq_some_iff.1 hx
  rw [List.drop_eq_getElem_cons hlt, rdL]
def addE (out : List Nd) (x : Nd) : List Nd := if x.name = [] then (if x.text = [] then out else addN out (txN x.text)) else out ++ [x]
def joinE (out xs : List Nd) : List Nd := xs.foldl addE out
def noText (out : List Nd) : Prop := ∀ o n a t ps, out = o ++ [.mk n a t ps] → ¬ n = []
theorem noText_nil : noText [] := fun o n a t ps h => by have := congrArg List.length h; simp at this
theorem noText_add {x : Nd} (h : ¬ x.name = []) (out : List Nd) : noText (out ++ [x]) := fun o n a t ps e => by
  have := List.append_inj_right' e rfl
  simp at this
  subst this
  exact h
theorem addN_noText {out : List Nd} (h : noText out) (x : Nd) : addN out x = out ++ [x] := by
  rcases last_cases out with ho | ⟨o, ⟨n, a, t, ps⟩, ho⟩
  · rw [ho, addN_nil]; rfl
  · rw [ho, addN_after (h _ _ _ _ _ ho)]
theorem mg_join (xs : List Nd) : (∀ out, noText out → joinE out xs = out ++ mgT [] xs) ∧ (∀ o t, t ≠ [] → joinE (o ++ [txN t]) xs = o ++ mgT t xs) := by
  induction xs with
  | nil =>
    refine ⟨fun out _ => by simp [joinE, mgT], fun o t ht => ?_⟩
    simp [joinE, mgT, ht]
  | cons x xs ih =>
    obtain ⟨i1, i2⟩ := ih
    by_cases hx : x.name = []
    · by_cases ht : x.text = []
      · refine ⟨fun out ho => ?_, fun o t h => ?_⟩
        · have : joinE out (x :: xs) = joinE out xs := by show joinE (addE out x) xs = _; rw [addE, if_pos hx, if_pos ht]
          rw [this, i1 out ho, mgT, if_pos hx, ht, List.append_nil]
        · have : joinE (o ++ [txN t]) (x :: xs) = joinE (o ++ [txN t]) xs := by show joinE (addE _ x) xs = _; rw [addE, if_pos hx, if_pos ht]
          rw [this, i2 o t h, mgT, if_pos hx, ht, List.append_nil]
      · refine ⟨fun out ho => ?_, fun o t h => ?_⟩
        · have : joinE out (x :: xs) = joinE (out ++ [txN x.text]) xs := by show joinE (addE out x) xs = _; rw [addE, if_pos hx, if_neg ht, addN_noText ho]
          rw [this, i2 out _ ht, mgT, if_pos hx, List.nil_append]
        · have : joinE (o ++ [txN t]) (x :: xs) = joinE (o ++ [txN (t ++ x.text)]) xs := by
            show joinE (addE _ x) xs = _
            rw [addE, if_pos hx, if_neg ht]
            show joinE (addN (o ++ [.mk [] [] t []]) (txN x.text)) xs = _
            rw [addN_text o [] t [] (x := txN x.text) rfl]
            rfl
          rw [this, i2 o _ (fun e => h (List.append_eq_nil_iff.1 e).1), mgT, if_pos hx]
    · refine ⟨fun out ho => ?_, fun o t h => ?_⟩
      · have : joinE out (x :: xs) = joinE (out ++ [x]) xs := by show joinE (addE out x) xs = _; rw [addE, if_neg hx]
        rw [this, i1 _ (noText_add hx out), mgT, if_neg hx, if_pos rfl]; simp
      · have : joinE (o ++ [txN t]) (x :: xs) = joinE (o ++ [txN t] ++ [x]) xs := by show joinE (addE _ x) xs = _; rw [addE, if_neg hx]
        rw [this, i1 _ (noText_add hx _), mgT, if_neg hx, if_neg h]; simp
theorem addN_two (w : List Nd) (a : List Atr) (u : List UInt8) (ps : List Nd) (t : List UInt8) : addN w (.mk [] a (u ++ t) ps) = addN (addN w (.mk [] a u ps)) (txN t) := by
  rcases last_cases w with hw | ⟨o, ⟨n, a', u', ps'⟩, hw⟩
  · rw [hw, addN_nil, addN_nil]
    exact (addN_text [] a u ps (x := txN t) rfl).symm
  · by_cases hn : n = []
    · subst hn
      rw [hw, addN_text o a' u' ps' (x := .mk [] a (u ++ t) ps) rfl, addN_text o a' u' ps' (x := .mk [] a u ps) rfl, addN_text o a' _ ps' (x := txN t) rfl]
      simp [Nd.text, txN]
    · rw [hw, addN_after hn, addN_after hn, addN_text _ a u ps (x := txN t) rfl]
      rfl
theorem join_addN (out zs : List Nd) (t : List UInt8) : joinL out (addN zs (txN t)) = addN (joinL out zs) (txN t) := by
  rcases last_cases zs with hz | ⟨o, ⟨n, a, u, ps⟩, hz⟩
  · rw [hz, addN_nil]; rfl
  · by_cases hn : n = []
    · subst hn
      rw [hz, addN_text o a u ps (x := txN t) rfl]
      unfold joinL
      rw [List.foldl_append, List.foldl_append]
      exact addN_two _ a u ps t
    · rw [hz, addN_after hn]
      unfold joinL
      rw [List.foldl_append]
      rfl
theorem join_addE (out zs : List Nd) (x : Nd) : joinL out (addE zs x) = addE (joinL out zs) x := by
  by_cases hx : x.name = []
  · by_cases ht : x.text = []
    · rw [addE, addE, if_pos hx, if_pos hx, if_pos ht, if_pos ht]
    · rw [addE, addE, if_pos hx, if_pos hx, if_neg ht, if_neg ht, join_addN]
  · rw [addE, addE, if_neg hx, if_neg hx]
    unfold joinL
    rw [List.foldl_append]
    exact addN_elem hx _
theorem join_join (xs : List Nd) : ∀ out zs, joinL out (joinE zs xs) = joinE (joinL out zs) xs := by
  induction xs with
  | nil => intro out zs; rfl
  | cons x xs ih =>
    intro out zs
    show joinL out (joinE (addE zs x) xs) = joinE (addE (joinL out zs) x) xs
    rw [ih, join_addE]
mutual
theorem of_rdN (l : List Ru) (H : ∀ n, doOf l n = 1 → ¬ toOf l n = []) : ∀ (x : Nd) (out : List Nd), ofN l x out = joinE out (rdN l x)
  | .mk n a t ps, out => by
    have h1 := of_rdL l H ps []
    rw [(mg_join (rdL l ps)).1 [] noText_nil, List.nil_append] at h1
    by_cases hn : n = []
    · rw [ofN, rdN, if_pos hn, if_pos hn]
      show _ = addE out (txN t)
      unfold addE
      rw [if_pos (show (txN t).name = [] from rfl)]
      rfl
    · by_cases hd : doOf l n = 1
      · rw [ofN, rdN, if_neg hn, if_neg hn, if_pos hd, if_pos hd, h1]
        show _ = addE out _
        unfold addE
        rw [if_neg (show ¬ (Nd.mk (toOf l n) a [] (mgT [] (rdL l ps))).name = [] from H n hd)]
      · by_cases hd2 : doOf l n = 2
        · rw [ofN, rdN, if_neg hn, if_neg hn, if_neg hd, if_neg hd, if_pos hd2, if_pos hd2, of_rdL l H ps [], join_join]
          rfl
        · rw [ofN, rdN, if_neg hn, if_neg hn, if_neg hd, if_neg hd, if_neg hd2, if_neg hd2]
          rfl
theorem of_rdL (l : List Ru) (H : ∀ n, doOf l n = 1 → ¬ toOf l n = []) : ∀ (xs : List Nd) (out : List Nd), ofL l xs out = joinE out (rdL l xs)
  | [], out => by rw [ofL, rdL]; rfl
  | x :: xs, out => by
    rw [ofL, rdL, of_rdL l H xs, of_rdN l H x]
    unfold joinE
    rw [List.foldl_append]
end
theorem of_mg (l : List Ru) (H : ∀ n, doOf l n = 1 → ¬ toOf l n = []) (ps : List Nd) : ofL l ps [] = mgT [] (rdL l ps) := by
  rw [of_rdL l H, (mg_join _).1 [] noText_nil, List.nil_append]
mutual
theorem cL_ofN (l : List Ru) : ∀ (x : Nd) (out : List Nd), cL (ofN l x out) ≤ cL out + szN x
  | .mk n a t ps, out => by
    have h1 := cL_ofL l ps []
    have h0 : cL ([] : List Nd) = 0 := rfl
    have e1 : szN (.mk n a t ps) = (n.length + 1) + ((a.map szA).sum + 1) + (t.length + 1) + (szL ps + 1) + 1 := by simp only [szN, szS]
    have h2 := cL_joinL (ofL l ps []) out
    have h3 := cL_addN out (txN t)
    have h4 : (txN t).text.length = t.length := rfl
    rw [ofN]
    (repeat' split)
    · omega
    · omega
    · rw [cL_append, cL_one]; simp only [Nd.text, List.length_nil]; omega
    · omega
    · omega
theorem cL_ofL (l : List Ru) : ∀ (xs : List Nd) (out : List Nd), cL (ofL l xs out) ≤ cL out + szL xs
  | [], out => by rw [ofL]; omega
  | x :: xs, out => by
    have h1 := cL_ofN l x out
    have h2 := cL_ofL l xs (ofN l x out)
    have e : szL (x :: xs) = szN x + szL xs := by simp [szL_sum]
    rw [ofL, e]; omega
end
mutual
theorem cL_rdN (l : List Ru) : ∀ x : Nd, cL (rdN l x) ≤ szN x
  | .mk n a t ps => by
    have h1 := cL_rdL l ps
    have h0 : cL ([] : List Nd) = 0 := rfl
    have e1 : szN (.mk n a t ps) = (n.length + 1) + ((a.map szA).sum + 1) + (t.length + 1) + (szL ps + 1) + 1 := by simp only [szN, szS]
    have h4 : (txN t).text.length = t.length := rfl
    rw [rdN]
    (repeat' split)
    · rw [cL_one]; omega
    · rw [cL_one]; simp only [Nd.text, List.length_nil]; omega
    · omega
    · omega
theorem cL_rdL (l : List Ru) : ∀ xs : List Nd, cL (rdL l xs) ≤ szL xs
  | [] => by rw [rdL]; simp [cL]
  | x :: xs => by
    have h1 := cL_rdN l x
    have h2 := cL_rdL l xs
    have e : szL (x :: xs) = szN x + szL xs := by simp [szL_sum]
    rw [rdL, e, cL_append]; omega
end
/-! ### Rules that may be -/
theorem code_zero {l : List Ru} (h : rulesCode l = 0) {k : Nat} {x : Ru} (hx : l[k]? = some x) : rfault (l.take k) x = 0 := by
  unfold rulesCode at h
  split at h
  · cases h
  · by_cases hz : rfault (l.take k) x = 0
    · exact hz
    · exfalso
      cases hf : ((List.range l.length).map (faultAt l)).find? (fun c => decide (c ≠ 0)) with
      | some c =>
        rw [hf] at h
        have := List.find?_some hf
        simp at this h
        exact this h
      | none =>
        rw [List.find?_eq_none] at hf
        have hk := (List.getElem?_eq_some_iff.1 hx).1
        have := hf (faultAt l k) (List.mem_map.2 ⟨k, List.mem_range.2 hk, rfl⟩)
        unfold faultAt at this
        rw [hx] at this
        simp at this
        exact hz this
theorem nameOk_nil : nameOk [] = false := by decide
theorem rule_to {l : List Ru} (h : rulesCode l = 0) {x : Ru} (hx : x ∈ l) (h1 : x.2.1 = 1) : ¬ x.2.2 = [] := by
  obtain ⟨k, hk⟩ := List.mem_iff_getElem?.1 hx
  have hz := code_zero h hk
  intro e
  unfold rfault at hz
  rw [e, nameOk_nil, h1] at hz
  revert hz
  split <;> simp
theorem rule_one {l : List Ru} (h : rulesCode l = 0) {k : Nat} {x : Ru} (hx : l[k]? = some x) : (l.take k).find? (fun q => decide (q.1 = x.1)) = none := by
  have hz := code_zero h hx
  cases hb : (l.take k).any (fun q => decide (q.1 = x.1)) with
  | true =>
    exfalso
    unfold rfault at hz
    rw [hb] at hz
    revert hz
    (repeat' split) <;> first | (simp; done) | (rename_i hh; exact absurd rfl hh)
  | false =>
    rw [List.find?_eq_none]
    intro q hq
    have := List.any_eq_false.1 hb q hq
    simpa using this
theorem do_to {l : List Ru} (h : rulesCode l = 0) (n : List UInt8) (h1 : doOf l n = 1) : ¬ toOf l n = [] := by
  unfold doOf at h1
  unfold toOf
  cases hr : ruleOf l n with
  | none => rw [hr] at h1; cases h1
  | some r =>
    rw [hr] at h1
    exact rule_to h (List.mem_of_find?_eq_some hr) h1
end Go.Proofs.Yteekfmflecgjmaa
