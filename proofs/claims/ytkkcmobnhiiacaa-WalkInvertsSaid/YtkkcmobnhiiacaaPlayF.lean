/- The document's WalkPlay; what walk.play does is what the document says. No conditions. -/
import Derived.Test.YtkkcmobnhiiacaaPlayE
set_option linter.unusedSimpArgs false
set_option linter.unusedVariables false
set_option maxRecDepth 100000
namespace Go.Proofs.Ytkkcmobnhiiacaa
open Go.RowKit

theorem nx_lo (kd : Int) (ii : Nat) (x : Nd) (list : List Nd) : ∀ k, k ≤ ii → nxF kd ii x list k = list.take k
  | 0, _ => by simp [nxF]
  | k + 1, h => by
    rw [nxF, nx_lo kd ii x list k (by omega), if_neg (by omega), List.take_add_one, List.append_nil]
    congr 1
    cases list[k]? with
    | none => rfl
    | some n => exact if_pos (.inl (by omega))
theorem nx_hi (kd : Int) (ii : Nat) (x : Nd) (list : List Nd) : ∀ m, nxF kd ii x list (ii + 1 + m) = nxF kd ii x list (ii + 1) ++ (list.drop (ii + 1)).take m
  | 0 => by simp
  | m + 1 => by
    rw [show ii + 1 + (m + 1) = (ii + 1 + m) + 1 by omega, nxF, nx_hi kd ii x list m, if_neg (by omega), List.take_add_one, List.append_nil, List.append_assoc]
    congr 2
    rw [List.getElem?_drop]
    cases list[ii + 1 + m]? with
    | none => rfl
    | some n => exact if_pos (.inl (by omega))
theorem nx_at (kd : Int) (ii : Nat) (x : Nd) (list : List Nd) (h : ii ≤ list.length) : nxF kd ii x list (list.length + 1) = list.take ii ++ (if kd ≠ 2 then [x] else []) ++ (match list[ii]? with | none => [] | some n => if kd = 1 then [n] else []) ++ list.drop (ii + 1) := by
  rw [show list.length + 1 = ii + 1 + (list.length - ii) by omega, nx_hi, List.take_of_length_le (by rw [List.length_drop]; omega), nxF, nx_lo kd ii x list ii (Nat.le_refl _)]
  simp
  cases list[ii]? <;> rfl
theorem nx_put (ii : Nat) (x : Nd) (list : List Nd) (h : ii ≤ list.length) : nxF 1 ii x list (list.length + 1) = list.take ii ++ [x] ++ list.drop ii := by
  rw [nx_at 1 ii x list h, if_pos (by decide), List.append_assoc (list.take ii ++ [x])]
  congr 1
  by_cases hl : ii < list.length
  · rw [List.getElem?_eq_getElem hl, List.drop_eq_getElem_cons hl]; rfl
  · rw [List.getElem?_eq_none_iff.2 (by omega), List.drop_of_length_le (by omega), List.drop_of_length_le (by omega)]; rfl
theorem nx_cut (ii : Nat) (x : Nd) (list : List Nd) (h : ii < list.length) : nxF 2 ii x list (list.length + 1) = list.take ii ++ list.drop (ii + 1) := by
  rw [nx_at 2 ii x list (by omega), List.getElem?_eq_getElem h]
  simp
theorem nx_set (ii : Nat) (x : Nd) (list : List Nd) (h : ii < list.length) : nxF 3 ii x list (list.length + 1) = list.set ii x := by
  rw [nx_at 3 ii x list (by omega), List.getElem?_eq_getElem h, List.set_eq_take_append_cons_drop, if_pos h]
  simp
theorem lst_step {l : List Nd} {p : Int} {ps : List Int} {n : Nd} (hps : ps ≠ []) (hp : ¬ (p < 0 ∨ (l.length : Int) ≤ p)) (hn : l[p.toNat]? = some n) : (n.name = [] → (lstF l (p :: ps)).2 = false) ∧ (n.name ≠ [] → lstF l (p :: ps) = lstF n.parts ps) := by
  have hl : 0 < ps.length := List.length_pos_iff.2 hps
  have hat : atF l (p :: ps).dropLast = if ps.dropLast = [] then some n else if n.name = [] then none else atF n.parts ps.dropLast := by rw [List.dropLast_cons_of_ne_nil hps, atF, if_neg hp, hn]
  have hc : ¬ (p :: ps).length = 1 := by simp; exact hps
  unfold lstF
  rw [if_neg hc]
  by_cases h1 : ps.length = 1
  · have hd : ps.dropLast = [] := List.length_eq_zero_iff.1 (by rw [List.length_dropLast]; omega)
    rw [if_pos hd] at hat
    rw [if_pos h1, hat]
    refine ⟨fun e => by simp [atN, atE, e], fun e => by simp [atN, atE, e]⟩
  · have hd : ps.dropLast ≠ [] := fun e => by
      have := congrArg List.length e
      rw [List.length_dropLast, List.length_nil] at this
      omega
    rw [if_neg hd] at hat
    rw [if_neg h1, hat]
    refine ⟨fun e => by rw [if_pos e]; simp [atN, atE, nd0, Nd.name], fun e => by rw [if_neg e]⟩
def docT (c : Ch) (l : List Nd) (path : List Int) : Except Int (List Nd) := if path = [] then .error 7
  else if (lstF l path).2 = false ∨ lastP path < 0 ∨ ((lstF l path).1.length : Int) < lastP path ∨ c.kind ≠ 1 ∧ lastP path = ((lstF l path).1.length : Int) then .error 7
  else .ok (wlF l path (nxF c.kind (lastP path) c.node (lstF l path).1 ((lstF l path).1.length + 1)))
def chgR (r : List Nd × Ch × Int) : Except Int (List Nd) := if r.2.2 = 0 then .ok r.1 else .error r.2.2
theorem last_cons (p : Int) {ps : List Int} (h : ps ≠ []) : lastP (p :: ps) = lastP ps := by
  have hl : 0 < ps.length := List.length_pos_iff.2 h
  unfold lastP
  rw [show (p :: ps).length - 1 = (ps.length - 1) + 1 by simp; omega]
  simp
theorem chg_doc (c : Ch) (hk : c.kind = 1 ∨ c.kind = 2 ∨ c.kind = 3) (path : List Int) : ∀ l, chgR (chgT c l path) = docT c l path := by
  induction path with
  | nil => intro l; rw [chgT]; unfold chgR docT; simp
  | cons p ps ih =>
    intro l
    rw [chgT, docT, if_neg (show ¬ (p :: ps) = [] by simp)]
    by_cases hps : ps = []
    · subst hps
      rw [show lstF l [p] = (l, true) from if_pos rfl, show lastP [p] = p from rfl, wlF, if_pos rfl]
      simp only
      have hz : (c.kind = 1 ∧ (if c.kind = 1 ∧ True then (1 : Int) else 0) = 1) ∨ (c.kind ≠ 1 ∧ (if c.kind = 1 ∧ True then (1 : Int) else 0) = 0) := by
        by_cases h : c.kind = 1
        · exact .inl ⟨h, if_pos ⟨h, trivial⟩⟩
        · exact .inr ⟨h, if_neg (fun g => h g.1)⟩
      generalize (if c.kind = 1 ∧ True then (1 : Int) else 0) = z at *
      by_cases hbad : p < 0 ∨ (l.length : Int) + z ≤ p
      · rw [if_pos hbad, if_pos (Or.inr (by omega))]
        rfl
      · have hno : ¬ (true = false ∨ p < 0 ∨ (l.length : Int) < p ∨ c.kind ≠ 1 ∧ p = (l.length : Int)) := by
          rintro (g | g)
          · exact absurd g (by decide)
          · omega
        rw [if_neg hbad, if_neg hno]
        rw [if_pos trivial]
        obtain ⟨ii, rfl⟩ : ∃ ii : Nat, p = ii := ⟨p.toNat, by omega⟩
        rw [Int.toNat_natCast]
        rcases hk with h | h | h
        · rw [h, nx_put ii _ _ (by omega)]; rfl
        · rw [h, nx_cut ii _ _ (by omega)]; rfl
        · rw [h, nx_set ii _ _ (by omega)]; rfl
    · rw [show (if c.kind = 1 ∧ ps = [] then (1 : Int) else 0) = 0 from if_neg (fun h => hps h.2), Int.add_zero, last_cons p hps, wlF, if_neg hps]
      by_cases hp : p < 0 ∨ (l.length : Int) ≤ p
      · have hlf : (lstF l (p :: ps)).2 = false := by
          unfold lstF
          rw [if_neg (by simp; exact hps), List.dropLast_cons_of_ne_nil hps, atF, if_pos hp]
          simp [atN, atE, nd0, Nd.name]
        rw [if_pos hp, if_pos (.inl hlf)]
        rfl
      · have hlt : p.toNat < l.length := by omega
        rw [if_neg hp, if_neg hps, if_neg (show ¬ p < 0 by omega)]
        have hn := List.getElem?_eq_getElem hlt
        generalize l[p.toNat] = n at hn
        obtain ⟨s1, s2⟩ := lst_step hps hp hn
        rw [hn]
        simp only
        by_cases hnm : n.name = []
        · rw [if_pos hnm, if_pos (.inl (s1 hnm))]
          rfl
        · rw [if_neg hnm, s2 hnm]
          have hi := ih n.parts
          unfold docT at hi
          rw [if_neg hps] at hi
          generalize chgT c n.parts ps = R at hi
          obtain ⟨q, b, e⟩ := R
          unfold chgR at hi ⊢
          simp only at hi ⊢
          split at hi
          · rename_i he
            subst he
            split at hi
            · injection hi
            · injection hi with hi
              rw [if_pos rfl, if_neg (by assumption), hi]
          · rename_i he
            split at hi
            · rw [if_neg he, if_pos (by assumption)]
              exact congrArg Except.error (by injection hi)
            · injection hi
theorem play_doc (cs : List Ch) : ∀ pre now bs, match docA pre now cs with
    | .error e => playA now bs cs = .error e
    | .ok all => ∃ x bs', playA now bs cs = .ok (x, bs') ∧ all[pre.length + cs.length]? = some x := by
  induction cs with
  | nil => intro pre now bs; exact ⟨now, bs, by rw [playA], by simp⟩
  | cons c cs ih =>
    intro pre now bs
    rw [docA, playA]
    unfold docS
    by_cases hk3 : c.kind < 1 ∨ 3 < c.kind
    · rw [if_pos hk3, if_pos hk3]
    · rw [if_neg hk3, if_neg hk3]
      by_cases hk4 : c.kind = 2 ∧ emptyN c.node = false
      · rw [if_pos hk4, if_pos hk4]
      · rw [if_neg hk4, if_neg hk4]
        have hcd := chg_doc c (by omega) c.path now
        unfold docT at hcd
        rw [← hcd]
        generalize chgT c now c.path = R at *
        obtain ⟨q, b, e⟩ := R
        unfold chgR
        simp only
        by_cases he : e = 0
        · rw [if_pos he, if_pos he]
          have := ih (pre ++ [now]) q (bs ++ [b])
          simp only
          split
          · rename_i e2 h2
            rw [h2] at this
            exact this
          · rename_i all h2
            rw [h2] at this
            obtain ⟨x, bs', h3, h4⟩ := this
            refine ⟨x, bs', h3, ?_⟩
            rw [← h4]
            congr 1
            simp
            omega
        · rw [if_neg he, if_neg he]
def playX (l : List Nd) (cs : List Ch) : Except Int (List Nd) := match playR l cs with
  | .ok (x, _) => .ok x
  | .error e => .error e
def docW : Except Int (List Nd) → V
  | .ok x => .tup [.lst (nodesL x), .int .i64 0]
  | .error e => .tup [.lst [], .int .i64 e]
theorem playW_X (l : List Nd) (cs : List Ch) : playW (playR l cs) = docW (playX l cs) := by
  unfold playX
  cases playR l cs with
  | error e => rfl
  | ok x => rfl
theorem doc_X (l : List Nd) (cs : List Ch) : match docP l cs with
    | .error e => playX l cs = .error e
    | .ok all => ∃ x, playX l cs = .ok x ∧ all[cs.length]? = some x := by
  unfold docP playX playR
  by_cases h : 40 < cs.length
  · rw [if_pos h, if_pos h]
  · rw [if_neg h, if_neg h]
    have := play_doc cs [] l []
    split
    · rename_i e h2
      rw [h2] at this
      rw [this]
    · rename_i all h2
      rw [h2] at this
      obtain ⟨x, bs', h3, h4⟩ := this
      rw [h3]
      exact ⟨x, rfl, by rw [← h4]; simp⟩
theorem docS_err {l : List Nd} {c : Ch} {e : Int} (h : docS l c = .error e) : e ≠ 0 := by
  unfold docS at h
  split at h
  · injection h with h; omega
  · split at h
    · injection h with h; omega
    · split at h
      · injection h with h; omega
      · split at h
        · injection h with h; omega
        · injection h
theorem docA_err (cs : List Ch) : ∀ {pre now} {e : Int}, docA pre now cs = .error e → e ≠ 0 := by
  induction cs with
  | nil => intro pre now e h; rw [docA] at h; injection h
  | cons c cs ih =>
    intro pre now e h
    rw [docA] at h
    split at h
    · rename_i e2 h2
      injection h with h
      subst h
      exact docS_err h2
    · exact ih h
theorem docP_err {l : List Nd} {cs : List Ch} {e : Int} (h : docP l cs = .error e) : e ≠ 0 := by
  unfold docP at h
  split at h
  · injection h with h; omega
  · exact docA_err cs h
end Go.Proofs.Ytkkcmobnhiiacaa
