/- Pairs of states that are met, walked. No conditions. -/
import Derived.Test.YtmjglpdfkkmcoaaSmStep
set_option linter.unusedSimpArgs false
set_option linter.unusedVariables false
set_option maxRecDepth 100000
namespace Go.Proofs.Ytmjglpdfkkmcoaa
open Go.RowKit

def rowA (l : List Int) : V := .agg (l.map (V.int .i64))
theorem look_mem {α : Type} [DecidableEq α] {a : α} {n : Int} : ∀ {M : List (α × Int)}, (lookM a M) = some n → ∃ j : Nat, M[j]? = some (a, n)
  | [], h => by simp [lookM] at h
  | q :: M, h => by
    rw [look_cons] at h
    split at h
    · rename_i e
      cases h
      exact ⟨0, by rw [e]; rfl⟩
    · obtain ⟨j, hj⟩ := look_mem h
      exact ⟨j + 1, by simpa using hj⟩
theorem look_no {α : Type} [DecidableEq α] {a : α} : ∀ {M : List (α × Int)}, (lookM a M) = none → a ∉ M.map (·.1)
  | [], _ => by simp
  | q :: M, h => by
    rw [look_cons] at h
    split at h
    · cases h
    · rename_i e
      have := look_no h
      simp only [List.map_cons, List.mem_cons, not_or]
      exact ⟨e, this⟩
theorem nodup_below : ∀ (n : Nat) (l : List Nat), l.Nodup → (∀ x ∈ l, x < n) → l.length ≤ n
  | 0, l, _, h => by
    cases l with
    | nil => simp
    | cons x l => exact absurd (h x (by simp)) (by omega)
  | n + 1, l, hd, h => by
    by_cases hm : n ∈ l
    · have h1 := nodup_below n (l.erase n) (hd.erase n) (fun x hx => by
        have h2 := h x (List.mem_of_mem_erase hx)
        have h3 : x ≠ n := fun e => by subst e; exact (List.Nodup.not_mem_erase hd) hx
        omega)
      rw [List.length_erase_of_mem hm] at h1
      omega
    · have := nodup_below n l hd (fun x hx => by
        have h2 := h x hx
        have h3 : x ≠ n := fun e => by subst e; exact hm hx
        omega)
      omega
/-- What the pairs met are, so far: each in its place, none twice, all of them states and reached. -/
structure PInv (T1 T2 : List (List Int)) (M : List ((Int × Int) × Int)) : Prop where
  idx : ∀ (j : Nat) (q : (Int × Int) × Int), M[j]? = some q → q.2 = (j : Int)
  nodup : (M.map (·.1)).Nodup
  ok : ∀ p ∈ M.map (·.1), stOk T1.length p.1 ∧ stOk T2.length p.2
  reached : ∀ p ∈ M.map (·.1), ∃ w, wordOk w ∧ p = (runI T1 0 w, runI T2 0 w)
  first : (M.map (·.1))[0]? = some (0, 0)
def leads (T1 T2 : List (List Int)) (M : List ((Int × Int) × Int)) (j c : Nat) (k : Int) : Prop := ∃ (n : Nat) (p : Int × Int), k = n ∧ (M.map (·.1))[j]? = some p ∧ (M.map (·.1))[n]? = some (stepI T1 p.1 c, stepI T2 p.2 c)
theorem PInv.start {T1 T2 : List (List Int)} (h1 : 1 ≤ T1.length) (h2 : 1 ≤ T2.length) : PInv T1 T2 [((0, 0), 0)] where
  idx := fun j q h => by
    match j, h with
    | 0, h => cases h; rfl
    | j + 1, h => simp at h
  nodup := by simp
  ok := fun p hp => by simp at hp; subst hp; exact ⟨⟨by omega, by show (0 : Int) < T1.length; omega⟩, ⟨by omega, by show (0 : Int) < T2.length; omega⟩⟩
  reached := fun p hp => by simp at hp; subst hp; exact ⟨[], by simp [wordOk], rfl⟩
  first := rfl
theorem PInv.bound {T1 T2 : List (List Int)} {M : List ((Int × Int) × Int)} (h : PInv T1 T2 M) (h1 : T1.length ≤ 40) (h2 : T2.length ≤ 40) : M.length ≤ 1681 := by
  have := nodup_below 1681 ((M.map (·.1)).map fun p => ((p.1 + 1) * 41 + (p.2 + 1)).toNat) ?_ ?_
  · simpa using this
  · refine List.Pairwise.map _ ?_ (List.Pairwise.and_mem.1 h.nodup)
    rintro p q ⟨hp, hq, hne⟩ e
    obtain ⟨⟨a1, a2⟩, a3, a4⟩ := h.ok p hp
    obtain ⟨⟨b1, b2⟩, b3, b4⟩ := h.ok q hq
    apply hne
    obtain ⟨p1, p2⟩ := p
    obtain ⟨q1, q2⟩ := q
    simp only at a1 a2 a3 a4 b1 b2 b3 b4 e
    have e1 : p1 = q1 := by omega
    have e2 : p2 = q2 := by omega
    rw [e1, e2]
  · intro x hx
    obtain ⟨p, hp, rfl⟩ := List.mem_map.1 hx
    obtain ⟨⟨a1, a2⟩, a3, a4⟩ := h.ok p hp
    obtain ⟨p1, p2⟩ := p
    simp only at a1 a2 a3 a4 ⊢
    omega
theorem runI_snoc (T : List (List Int)) (x : Int) (w : List Nat) (c : Nat) : runI T x (w ++ [c]) = stepI T (runI T x w) c := by simp [runI]
theorem PInv.push {T1 T2 : List (List Int)} {F1 F2 : List Bool} (m1 : mayOk T1 F1 = true) (m2 : mayOk T2 F2 = true) {M : List ((Int × Int) × Int)} (h : PInv T1 T2 M) {j c : Nat} {p : Int × Int} (hj : (M.map (·.1))[j]? = some p) (hc : c < 8)
    (hl : lookM (stepI T1 p.1 c, stepI T2 p.2 c) M = none) : PInv T1 T2 (M ++ [((stepI T1 p.1 c, stepI T2 p.2 c), (M.length : Int))]) where
  idx := fun i q hq => by
    rw [List.getElem?_append] at hq
    split at hq
    · exact h.idx i q hq
    · rename_i hi
      obtain ⟨rfl, hq2⟩ : i = M.length ∧ q = ((stepI T1 p.1 c, stepI T2 p.2 c), (M.length : Int)) := by
        match hk : i - M.length with
        | 0 => rw [hk] at hq; cases hq; exact ⟨by omega, rfl⟩
        | k + 1 => rw [hk] at hq; simp at hq
      rw [hq2]
  nodup := by
    rw [List.map_append]
    refine List.nodup_append.2 ⟨h.nodup, by simp, ?_⟩
    intro a ha b hb
    simp at hb
    subst hb
    intro e
    subst e
    exact look_no hl ha
  ok := fun q hq => by
    rw [List.map_append, List.mem_append] at hq
    rcases hq with hq | hq
    · exact h.ok q hq
    · simp at hq
      subst hq
      obtain ⟨o1, o2⟩ := h.ok p (List.mem_of_getElem? hj)
      exact ⟨step_ok m1 o1 hc, step_ok m2 o2 hc⟩
  reached := fun q hq => by
    rw [List.map_append, List.mem_append] at hq
    rcases hq with hq | hq
    · exact h.reached q hq
    · simp at hq
      subst hq
      obtain ⟨w, hw, e⟩ := h.reached p (List.mem_of_getElem? hj)
      refine ⟨w ++ [c], ?_, ?_⟩
      · intro d hd
        rw [List.mem_append] at hd
        rcases hd with hd | hd
        · exact hw d hd
        · simp at hd; subst hd; exact hc
      · rw [runI_snoc, runI_snoc, e]
  first := by
    rw [List.map_append, List.getElem?_append_left]
    · exact h.first
    · exact (List.getElem?_eq_some_iff.1 h.first).1
theorem leads_push {T1 T2 : List (List Int)} {M X : List ((Int × Int) × Int)} {j c : Nat} {k : Int} (h : leads T1 T2 M j c k) : leads T1 T2 (M ++ X) j c k := by
  obtain ⟨n, p, e, h1, h2⟩ := h
  refine ⟨n, p, e, ?_, ?_⟩
  · rw [List.map_append, List.getElem?_append_left (List.getElem?_eq_some_iff.1 h1).1]; exact h1
  · rw [List.map_append, List.getElem?_append_left (List.getElem?_eq_some_iff.1 h2).1]; exact h2
theorem leads_known {T1 T2 : List (List Int)} {M : List ((Int × Int) × Int)} (h : PInv T1 T2 M) {j c : Nat} {p : Int × Int} (hj : (M.map (·.1))[j]? = some p) {n : Int} (hl : lookM (stepI T1 p.1 c, stepI T2 p.2 c) M = some n) : leads T1 T2 M j c n := by
  obtain ⟨i, hi⟩ := look_mem hl
  exact ⟨i, p, h.idx i _ hi, hj, by rw [List.getElem?_map, hi]; rfl⟩
theorem leads_new {T1 T2 : List (List Int)} {M : List ((Int × Int) × Int)} {j c : Nat} {p : Int × Int} (hj : (M.map (·.1))[j]? = some p) (k : Int) : leads T1 T2 (M ++ [((stepI T1 p.1 c, stepI T2 p.2 c), k)]) j c (M.length : Int) := by
  refine ⟨M.length, p, rfl, ?_, ?_⟩
  · rw [List.map_append, List.getElem?_append_left (List.getElem?_eq_some_iff.1 hj).1]; exact hj
  · rw [List.map_append, List.getElem?_append_right (by simp)]
    simp
/-- The pairs met, and where each leads. -/
structure Pairs (T1 T2 : List (List Int)) (M : List ((Int × Int) × Int)) (N : List (List Int)) : Prop where
  inv : PInv T1 T2 M
  len : N.length = M.length
  rows : ∀ (j : Nat) (r : List Int), N[j]? = some r → r.length = 8 ∧ ∀ (c : Nat) (k : Int), r[c]? = some k → leads T1 T2 M j c k
theorem Pairs.met {T1 T2 : List (List Int)} {M : List ((Int × Int) × Int)} {N : List (List Int)} (h : Pairs T1 T2 M N) : Met T1 T2 (M.map (·.1)) where
  first := List.mem_of_getElem? h.inv.first
  reached := h.inv.reached
  closed := fun p hp c hc => by
    obtain ⟨j, hj⟩ := List.mem_iff_getElem?.1 hp
    have hlt : j < M.length := by have := (List.getElem?_eq_some_iff.1 hj).1; simpa using this
    obtain ⟨r, hr⟩ : ∃ r, N[j]? = some r := ⟨_, List.getElem?_eq_getElem (by rw [h.len]; exact hlt)⟩
    obtain ⟨h8, hk⟩ := h.rows j r hr
    obtain ⟨k, hkc⟩ : ∃ k, r[c]? = some k := ⟨_, List.getElem?_eq_getElem (by omega)⟩
    obtain ⟨n, q, _, h2, h3⟩ := hk c k hkc
    rw [hj] at h2
    cases h2
    exact List.mem_of_getElem? h3
theorem len8 {α : Type} {l : List α} (h : l.length = 8) : ∃ a b c d e f g i, l = [a, b, c, d, e, f, g, i] := by
  match l, h with
  | [a, b, c, d, e, f, g, i], _ => exact ⟨a, b, c, d, e, f, g, i, rfl⟩
theorem nr_pairs : ∀ L : List (Int × Int), nrL (L.map pairA)
  | [] => trivial
  | p :: L => ⟨⟨trivial, trivial, trivial⟩, nr_pairs L⟩
theorem nr_i64' : ∀ L : List Int, nrL (L.map (V.int .i64))
  | [] => trivial
  | x :: L => ⟨trivial, nr_i64' L⟩
theorem nr_rowA : ∀ N : List (List Int), nrL (N.map rowA)
  | [] => trivial
  | r :: N => ⟨nr_i64' r, nr_rowA N⟩
def litP (q : Int × Int) : List V := List.take 1 (List.drop 0 [V.agg [V.int .i64 q.1, V.int .i64 q.2]])
theorem app_row (M : List ((Int × Int) × Int)) (a b : Int) : List.take M.length (List.drop 0 (List.map pairA (List.map (fun x => x.1) M))) ++ List.take 1 (List.drop 0 [V.agg [V.int .i64 (a, b).1, V.int .i64 (a, b).2]]) = List.map pairA (List.map (fun x => x.1) (M ++ [((a, b), (M.length : Int))])) := by
  rw [List.drop_zero, List.take_of_length_le (by simp), List.map_append, List.map_append]
  rfl
theorem app_len (M : List ((Int × Int) × Int)) (a b : Int) : M.length + (List.take 1 (List.drop 0 [V.agg [V.int .i64 (a, b).1, V.int .i64 (a, b).2]])).length = (M ++ [((a, b), (M.length : Int))]).length := by
  rw [List.length_append]
  rfl
theorem app_rowN (N : List (List Int)) (a0 a1 a2 a3 a4 a5 a6 a7 : Int) : List.take N.length (List.drop 0 (List.map rowA N)) ++ List.take 1 (List.drop 0 [V.agg [V.int .i64 a0, V.int .i64 a1, V.int .i64 a2, V.int .i64 a3, V.int .i64 a4, V.int .i64 a5, V.int .i64 a6, V.int .i64 a7]]) = List.map rowA (N ++ [[a0, a1, a2, a3, a4, a5, a6, a7]]) := by
  rw [List.drop_zero, List.take_of_length_le (by simp), List.map_append]
  rfl
theorem app_lenN (N : List (List Int)) (a0 a1 a2 a3 a4 a5 a6 a7 : Int) : N.length + (List.take 1 (List.drop 0 [V.agg [V.int .i64 a0, V.int .i64 a1, V.int .i64 a2, V.int .i64 a3, V.int .i64 a4, V.int .i64 a5, V.int .i64 a6, V.int .i64 a7]])).length = (N ++ [[a0, a1, a2, a3, a4, a5, a6, a7]]).length := by
  rw [List.length_append]
  rfl
set_option maxHeartbeats 8000000 in
theorem pairs_prog {T1 T2 : List (List Int)} {F1 F2 : List Bool} (m1 : mayOk T1 F1 = true) (m2 : mayOk T2 F2 = true) :
    Fn1 Try.prog 7 [autoV T1 F1, autoV T2 F2] (fun r => ∃ M N, r = .tup [.lst ((M.map (·.1)).map pairA), .lst (N.map rowA)] ∧ Pairs T1 T2 M N) := by
  obtain ⟨h1, h40, hF, _⟩ := may_parts m1
  obtain ⟨h1', h40', hF', _⟩ := may_parts m2
  unfold autoV
  refine fn1E (T := Try.tt) Try.func7 rfl tt_all follows_all ?_ ?_ fun C hC hE => ?_
  · kernel_rfl
  · exact Nat.le_of_ble_eq_true (by kernel_rfl)
  conv => whnf
  repeat' (first | (refine brd_t (by first | assumption | omega) ?_; conv => whnf) | (refine brd_f (by first | assumption | omega) ?_; conv => whnf) | (refine ask (by first | assumption | omega) ?_; conv => whnf) | (refine fit64 (by omega) ?_; conv => whnf) | (refine fit (by simp only [kmin, kmax]; omega) ?_; conv => whnf) | (refine br_t (by assumption) ?_; conv => whnf) | (refine br_f (by assumption) ?_; conv => whnf) | (refine get_of (by assumption) ?_; conv => whnf) | (refine get_map (by assumption) ?_; conv => whnf) | (refine opn_make ?_; conv => whnf) | (refine opn_ins (kV := pkV) (kA := pairA) (by rw [hC]; exact pair_key) 2 [] (0, 0) 0 rfl rfl rfl rfl rfl ?_; conv => whnf) | (refine draw_lex hE ?_ ?_; decide +kernel; conv => whnf) | (refine draw_any hE [⟨1, [(0, none), (1, none), (2, none), (3, none), (4, none), (5, none), (6, none), (7, none), (8, some 0)], some 9, [], [[]]⟩] ?_ ?_; decide +kernel; conv => whnf) | (refine brd (fun h => ?_) (fun h => ?_) <;> conv => whnf) | (refine br (fun h => ?_) (fun h => ?_) <;> conv => whnf) | (refine ret_now hE ?_; conv => whnf) | (intro hlen; conv => whnf) | (refine seg_here ?_; conv => whnf) | (refine both ?_ ?_ <;> conv => whnf))
  refine loopE (fun ((i, M, N) : Nat × List ((Int × Int) × Int) × List (List Int)) => ⟨64, [(2, .rp [.lst (T1.map ints), .lst (F1.map V.bool)]), (3, .rp [.lst (T2.map ints), .lst (F2.map V.bool)]), (6, .it 2), (7, .sl 3 0 M.length), (8, .sl 0 0 N.length), (9, .int .i64 i)],
      [some (.row 8 (N.map rowA)), none, some (mpO pkV M), some (.row 2 ((M.map (·.1)).map pairA))]⟩)
    (fun (i, M, N) => PInv T1 T2 M ∧ i ≤ M.length ∧ N.length = i ∧ ∀ (j : Nat) (r : List Int), N[j]? = some r → r.length = 8 ∧ ∀ (c : Nat) (k : Int), r[c]? = some k → leads T1 T2 M j c k)
    (fun (i, _, _) => 1682 - i) (0, [((0, 0), 0)], []) hE ?_ ?_ ⟨PInv.start h1 h1', Nat.zero_le _, rfl, fun j r h => by simp at h⟩ ?_
  · kernel_rfl
  · refine up_freeze 0 (z := 2) (els := [autoV T1 F1]) rfl ⟨⟨trivial, trivial, trivial⟩, trivial⟩ (up_freeze 1 (z := 2) (els := [autoV T2 F2]) rfl ⟨⟨trivial, trivial, trivial⟩, trivial⟩ (up_own 8 8 rfl rfl (at_keep [2, 3, 6, 7, 8, 9] ?_)))
    conv => whnf
    rfl
  rintro ⟨i, M, N⟩ ⟨hI, hi, hN, hR⟩
  have hb := hI.bound h40 h40'
  have hml : ((M.map (·.1)).map pairA).length = M.length := by simp
  have hnl : (N.map rowA).length = N.length := by simp
  by_cases hlt : i < M.length
  · obtain ⟨p, hp⟩ : ∃ p, (M.map (·.1))[i]? = some p := ⟨_, List.getElem?_eq_getElem (by simpa using hlt)⟩
    obtain ⟨hx, hy⟩ := hI.ok p (List.mem_of_getElem? hp)
    conv => whnf
    repeat' (first | (refine brd_t (by first | assumption | omega) ?_; conv => whnf) | (refine brd_f (by first | assumption | omega) ?_; conv => whnf) | (refine ask (by first | assumption | omega) ?_; conv => whnf) | (refine fit64 (by omega) ?_; conv => whnf) | (refine fit (by simp only [kmin, kmax]; omega) ?_; conv => whnf) | (refine br_t (by assumption) ?_; conv => whnf) | (refine br_f (by assumption) ?_; conv => whnf) | (refine get_of (by assumption) ?_; conv => whnf) | (refine get_map (by assumption) ?_; conv => whnf) | (refine draw_lex hE ?_ ?_; decide +kernel; conv => whnf) | (refine draw_any hE [⟨1, [(0, none), (1, none), (2, none), (3, none), (4, none), (5, none), (6, none), (7, none), (8, some 0)], some 9, [], [[]]⟩] ?_ ?_; decide +kernel; conv => whnf) | (refine brd (fun h => ?_) (fun h => ?_) <;> conv => whnf) | (refine br (fun h => ?_) (fun h => ?_) <;> conv => whnf) | (refine ret_now hE ?_; conv => whnf) | (intro hlen; conv => whnf) | (refine seg_here ?_; conv => whnf) | (refine both ?_ ?_ <;> conv => whnf))
    refine loopE (fun ((c, M, R) : Nat × List ((Int × Int) × Int) × List Int) => ⟨64, [(2, .rp [.lst (T1.map ints), .lst (F1.map V.bool)]), (3, .rp [.lst (T2.map ints), .lst (F2.map V.bool)]), (6, .it 2), (7, .sl 3 0 M.length), (8, .sl 0 0 N.length), (9, .int .i64 i), (10, .ptr 1 0 0), (26, .int .i64 c)],
        [some (.row 8 (N.map rowA)), some (.row 8 [rowA R]), some (mpO pkV M), some (.row 2 ((M.map (·.1)).map pairA))]⟩)
      (fun (c, M, R) => PInv T1 T2 M ∧ c ≤ 8 ∧ (M.map (·.1))[i]? = some p ∧ R.length = 8 ∧ (∀ (d : Nat) (k : Int), d < c → R[d]? = some k → leads T1 T2 M i d k) ∧ ∀ (j : Nat) (r : List Int), N[j]? = some r → r.length = 8 ∧ ∀ (c : Nat) (k : Int), r[c]? = some k → leads T1 T2 M j c k)
      (fun (c, _, _) => 8 - c) (0, M, [0, 0, 0, 0, 0, 0, 0, 0]) hE ?_ ?_ ⟨hI, by omega, hp, rfl, fun d k h => by omega, hR⟩ ?_
    · kernel_rfl
    · refine at_keep [2, 3, 6, 7, 8, 9, 10, 26] ?_
      conv => whnf
      rfl
    rintro ⟨c, M, R⟩ ⟨hI, hc, hp, hRl, hRk, hR⟩
    have hb := hI.bound h40 h40'
    have hml : ((M.map (·.1)).map pairA).length = M.length := by simp
    have hil : i < M.length := by have := (List.getElem?_eq_some_iff.1 hp).1; simpa using this
    have hrl : (R.map (V.int .i64)).length = R.length := by simp
    obtain ⟨a0, a1, a2, a3, a4, a5, a6, a7, rfl⟩ := len8 hRl
    have hpp : ((M.map (·.1)).map pairA)[0 + Int.toNat (i : Int)]? = some (pairA p) := by rw [Nat.zero_add, Int.toNat_natCast, List.getElem?_map, hp]; rfl
    by_cases hc8 : c < 8
    · have hst := step_prog m1 m2 hx hy hc8
      cases hl : lookM (stepI T1 p.1 c, stepI T2 p.2 c) M with
      | some n =>
        have hkn := leads_known hI hp hl
        have hnew : ∀ (d : Nat) (k : Int), d < c + 1 → ([a0, a1, a2, a3, a4, a5, a6, a7].set c n)[d]? = some k → leads T1 T2 M i d k := by
          intro d k hd hk
          rw [List.getElem?_set] at hk
          split at hk
          · rename_i e; subst e; rw [if_pos (by simpa using hc8)] at hk; cases hk; exact hkn
          · exact hRk d k (by omega) hk
        obtain rfl | rfl | rfl | rfl | rfl | rfl | rfl | rfl : c = 0 ∨ c = 1 ∨ c = 2 ∨ c = 3 ∨ c = 4 ∨ c = 5 ∨ c = 6 ∨ c = 7 := by omega
        all_goals
          conv => whnf
          repeat' (first | (refine brd_t (by first | assumption | omega) ?_; conv => whnf) | (refine brd_f (by first | assumption | omega) ?_; conv => whnf) | (refine ask (by first | assumption | omega) ?_; conv => whnf) | (refine fit64 (by omega) ?_; conv => whnf) | (refine fit (by simp only [kmin, kmax]; omega) ?_; conv => whnf) | (refine br_t (by assumption) ?_; conv => whnf) | (refine br_f (by assumption) ?_; conv => whnf) | (refine get_of (by assumption) ?_; conv => whnf) | (refine get_map (by assumption) ?_; conv => whnf) | (refine get_of hpp ?_; conv => whnf) | (refine call_eq (hst) hC hasBody_18 ?_ ?_ ?_; kernel_rfl; kernel_rfl; conv => whnf) | (refine callq_eq (hst) hC hasBody_18 ?_ ?_ ?_; kernel_rfl; kernel_rfl; conv => whnf) | (refine opn_look_t (kV := pkV) (kA := pairA) (by rw [hC]; exact pair_key) 2 M (stepI T1 p.1 _, stepI T2 p.2 _) n rfl rfl rfl hl ?_; conv => whnf) | (refine draw_lex hE ?_ ?_; decide +kernel; conv => whnf) | (refine draw_any hE [⟨1, [(0, none), (1, none), (2, none), (3, none), (4, none), (5, none), (6, none), (7, none), (8, some 0)], some 9, [], [[]]⟩] ?_ ?_; decide +kernel; conv => whnf) | (refine brd (fun h => ?_) (fun h => ?_) <;> conv => whnf) | (refine br (fun h => ?_) (fun h => ?_) <;> conv => whnf) | (refine ret_now hE ?_; conv => whnf) | (intro hlen; conv => whnf) | (refine seg_here ?_; conv => whnf) | (refine both ?_ ?_ <;> conv => whnf))
          refine next_drop [2, 3, 6, 7, 8, 9, 10, 26] [4] (_, M, List.set [a0, a1, a2, a3, a4, a5, a6, a7] _ n) ⟨hI, ?_, hp, ?_, hnew, hR⟩ ?_ ?_
          · omega
          · simp
          · show 8 - _ < 8 - _; omega
          conv => whnf
          rw [kill_nrL _ (nr_rowA N), kill_nrL _ (nr_pairs _)]
          rfl
      | none =>
        have hI' := hI.push m1 m2 hp hc8 hl
        have hkn := leads_new (T1 := T1) (T2 := T2) (c := c) hp (M.length : Int)
        have hp' : ((M ++ [((stepI T1 p.1 c, stepI T2 p.2 c), (M.length : Int))]).map (·.1))[i]? = some p := by rw [List.map_append, List.getElem?_append_left (List.getElem?_eq_some_iff.1 hp).1]; exact hp
        have hnew : ∀ (d : Nat) (k : Int), d < c + 1 → ([a0, a1, a2, a3, a4, a5, a6, a7].set c (M.length : Int))[d]? = some k → leads T1 T2 (M ++ [((stepI T1 p.1 c, stepI T2 p.2 c), (M.length : Int))]) i d k := by
          intro d k hd hk
          rw [List.getElem?_set] at hk
          split at hk
          · rename_i e; subst e; rw [if_pos (by simpa using hc8)] at hk; cases hk; exact hkn
          · exact leads_push (hRk d k (by omega) hk)
        have hR' : ∀ (j : Nat) (r : List Int), N[j]? = some r → r.length = 8 ∧ ∀ (d : Nat) (k : Int), r[d]? = some k → leads T1 T2 (M ++ [((stepI T1 p.1 c, stepI T2 p.2 c), (M.length : Int))]) j d k := fun j r hr => ⟨(hR j r hr).1, fun d k hk => leads_push ((hR j r hr).2 d k hk)⟩
        obtain rfl | rfl | rfl | rfl | rfl | rfl | rfl | rfl : c = 0 ∨ c = 1 ∨ c = 2 ∨ c = 3 ∨ c = 4 ∨ c = 5 ∨ c = 6 ∨ c = 7 := by omega
        all_goals
          conv => whnf
          repeat' (first | (refine brd_t (by first | assumption | omega) ?_; conv => whnf) | (refine brd_f (by first | assumption | omega) ?_; conv => whnf) | (refine ask (by first | assumption | omega) ?_; conv => whnf) | (refine fit64 (by omega) ?_; conv => whnf) | (refine fit (by simp only [kmin, kmax]; omega) ?_; conv => whnf) | (refine br_t (by assumption) ?_; conv => whnf) | (refine br_f (by assumption) ?_; conv => whnf) | (refine get_of (by assumption) ?_; conv => whnf) | (refine get_map (by assumption) ?_; conv => whnf) | (refine get_of hpp ?_; conv => whnf) | (refine call_eq (hst) hC hasBody_18 ?_ ?_ ?_; kernel_rfl; kernel_rfl; conv => whnf) | (refine callq_eq (hst) hC hasBody_18 ?_ ?_ ?_; kernel_rfl; kernel_rfl; conv => whnf) | (refine opn_look_f (kV := pkV) (kA := pairA) (by rw [hC]; exact pair_key) 2 M (stepI T1 p.1 _, stepI T2 p.2 _) rfl rfl rfl hl ?_; conv => whnf) | (refine opn_upd (kV := pkV) (kA := pairA) (by rw [hC]; exact pair_key) 2 M (stepI T1 p.1 _, stepI T2 p.2 _) M.length rfl rfl rfl rfl hl ?_; conv => whnf) | (refine ask (Nat.le_refl 1) ?_; conv => whnf) | (refine ask ⟨?_, ?_, ?_⟩ ?_; (simp <;> omega); (show _ + 1 ≤ 9223372036854775807; omega); (show (_ + 1) * 16 ≤ 140737488355328; omega); conv => whnf) | (refine draw_lex hE ?_ ?_; decide +kernel; conv => whnf) | (refine draw_any hE [⟨1, [(0, none), (1, none), (2, none), (3, none), (4, none), (5, none), (6, none), (7, none), (8, some 0)], some 9, [], [[]]⟩] ?_ ?_; decide +kernel; conv => whnf) | (refine brd (fun h => ?_) (fun h => ?_) <;> conv => whnf) | (refine br (fun h => ?_) (fun h => ?_) <;> conv => whnf) | (refine ret_now hE ?_; conv => whnf) | (intro hlen; conv => whnf) | (refine seg_here ?_; conv => whnf) | (refine both ?_ ?_ <;> conv => whnf))
          refine next_drop [2, 3, 6, 7, 8, 9, 10, 26] [4, 5] (_, M ++ [((stepI T1 p.1 _, stepI T2 p.2 _), (M.length : Int))], List.set [a0, a1, a2, a3, a4, a5, a6, a7] _ (M.length : Int)) ⟨hI', ?_, hp', ?_, hnew, hR'⟩ ?_ ?_
          · omega
          · simp
          · show 8 - _ < 8 - _; omega
          conv => whnf
          rw [app_row, app_len]
          simp only [kill_nrL _ (nr_rowA _), kill_nrL _ (nr_pairs _)]
          rfl
    · obtain rfl : c = 8 := by omega
      conv => whnf
      repeat' (first | (refine brd_t (by first | assumption | omega) ?_; conv => whnf) | (refine brd_f (by first | assumption | omega) ?_; conv => whnf) | (refine ask (by first | assumption | omega) ?_; conv => whnf) | (refine fit64 (by omega) ?_; conv => whnf) | (refine fit (by simp only [kmin, kmax]; omega) ?_; conv => whnf) | (refine br_t (by assumption) ?_; conv => whnf) | (refine br_f (by assumption) ?_; conv => whnf) | (refine get_of (by assumption) ?_; conv => whnf) | (refine get_map (by assumption) ?_; conv => whnf) | (refine ask (Nat.le_refl 1) ?_; conv => whnf) | (refine ask ⟨?_, ?_, ?_⟩ ?_; (simp <;> omega); (show _ + 1 ≤ 9223372036854775807; omega); (show (_ + 1) * 64 ≤ 140737488355328; omega); conv => whnf) | (refine draw_lex hE ?_ ?_; decide +kernel; conv => whnf) | (refine draw_any hE [⟨1, [(0, none), (1, none), (2, none), (3, none), (4, none), (5, none), (6, none), (7, none), (8, some 0)], some 9, [], [[]]⟩] ?_ ?_; decide +kernel; conv => whnf) | (refine brd (fun h => ?_) (fun h => ?_) <;> conv => whnf) | (refine br (fun h => ?_) (fun h => ?_) <;> conv => whnf) | (refine ret_now hE ?_; conv => whnf) | (intro hlen; conv => whnf) | (refine seg_here ?_; conv => whnf) | (refine both ?_ ?_ <;> conv => whnf))
      refine next_drop [2, 3, 6, 7, 8, 9] [1, 4] (i + 1, M, N ++ [[a0, a1, a2, a3, a4, a5, a6, a7]]) ⟨hI, by omega, ?_, ?_⟩ ?_ ?_
      · simp; omega
      · intro j r hj
        rw [List.getElem?_append] at hj
        split at hj
        · exact hR j r hj
        · rename_i hjn
          obtain ⟨rfl, rfl⟩ : j = i ∧ r = [a0, a1, a2, a3, a4, a5, a6, a7] := by
            match hk : j - N.length with
            | 0 => rw [hk] at hj; cases hj; exact ⟨by omega, rfl⟩
            | k + 1 => rw [hk] at hj; simp at hj
          exact ⟨rfl, fun d k hk => hRk d k (by have := (List.getElem?_eq_some_iff.1 hk).1; simpa using this) hk⟩
      · show 1682 - (i + 1) < 1682 - i; omega
      conv => whnf
      rw [app_rowN, app_lenN]
      simp only [kill_nrL _ (nr_rowA _), kill_nrL _ (nr_pairs _)]
      rfl
  · conv => whnf
    repeat' (first | (refine brd_t (by first | assumption | omega) ?_; conv => whnf) | (refine brd_f (by first | assumption | omega) ?_; conv => whnf) | (refine ask (by first | assumption | omega) ?_; conv => whnf) | (refine fit64 (by omega) ?_; conv => whnf) | (refine fit (by simp only [kmin, kmax]; omega) ?_; conv => whnf) | (refine br_t (by assumption) ?_; conv => whnf) | (refine br_f (by assumption) ?_; conv => whnf) | (refine get_of (by assumption) ?_; conv => whnf) | (refine get_map (by assumption) ?_; conv => whnf) | (refine ret_up (up_frzK 3 4 [5] rfl ?_ rfl ?_ rfl (up_frzK 0 5 [4] rfl ?_ rfl ?_ rfl (up_here ?_)))) | (refine draw_lex hE ?_ ?_; decide +kernel; conv => whnf) | (refine draw_any hE [⟨1, [(0, none), (1, none), (2, none), (3, none), (4, none), (5, none), (6, none), (7, none), (8, some 0)], some 9, [], [[]]⟩] ?_ ?_; decide +kernel; conv => whnf) | (refine brd (fun h => ?_) (fun h => ?_) <;> conv => whnf) | (refine br (fun h => ?_) (fun h => ?_) <;> conv => whnf) | (refine ret_now hE ?_; conv => whnf) | (intro hlen; conv => whnf) | (refine seg_here ?_; conv => whnf) | (refine both ?_ ?_ <;> conv => whnf))
    · exact nr_pairs _
    · exact hml.symm
    · rw [frz_nrL _ _ (nr_rowA N)]; exact nr_rowA N
    · rw [frz_nrL _ _ (nr_rowA N)]; exact hnl.symm
    · rw [frz_nrL _ _ (nr_rowA N)]
      exact ⟨rfl, M, N, rfl, hI, by omega, hR⟩
end Go.Proofs.Ytmjglpdfkkmcoaa
