/- Which states of a wide machine are live, walked. No conditions. -/
import Derived.Test.YtmjglpdfkkmcoaaDoorLaw
import Derived.Test.YtmjglpdfkkmcoaaDoorBoXb
import Derived.Test.YtmjglpdfkkmcoaaDoorBoXa
/-! Machines as they are read from the input. No conditions. -/
set_option linter.unusedSimpArgs false
set_option linter.unusedVariables false
set_option maxRecDepth 100000
namespace Go.Proofs.YtmjglpdfkkmcoaaDoor
open Go.ChangeShapes Go.WideShapes Go.ChangeAt Go.RowKit

theorem reads_ints (n : Nat) : Reads Tryd.prog 76 ints (fun _ => True) (fun _ => 0) n := by
  cases n with
  | zero => exact Reads.zero
  | succ n => exact (reads_slice (f := V.int .i64) (z := 1) (by kernel_rfl) cells_3 (fun _ => rfl) (by simp) (reads_int (k := .i64) (by kernel_rfl) n)).as id (fun _ => rfl) (fun _ _ => trivial) (fun _ => Nat.zero_le _)
theorem reads_rows (n : Nat) : Reads Tryd.prog 29 (fun T : List (List Int) => .lst (T.map ints)) (fun _ => True) (fun _ => 0) n := by
  cases n with
  | zero => exact Reads.zero
  | succ n => exact (reads_slice (f := ints) (z := 1) (by kernel_rfl) cells_76 (fun _ => rfl) (by simp) (reads_ints n)).as id (fun _ => rfl) (fun _ _ => trivial) (fun _ => Nat.zero_le _)
theorem reads_bools (n : Nat) : Reads Tryd.prog 30 (fun F : List Bool => .lst (F.map V.bool)) (fun _ => True) (fun _ => 0) n := by
  cases n with
  | zero => exact Reads.zero
  | succ n => exact (reads_slice (f := V.bool) (z := 1) (by kernel_rfl) cells_4 (fun _ => rfl) (by simp) (reads_bool (by kernel_rfl) n)).as id (fun _ => rfl) (fun _ _ => trivial) (fun _ => Nat.zero_le _)

theorem reads_auto (n : Nat) : Reads Tryd.prog 32 (fun x : List (List Int) × List Bool × Unit => .agg [.lst (x.1.map ints), .lst (x.2.1.map V.bool)]) (fun _ => True) (fun _ => 0) n := by
  cases n with
  | zero => exact Reads.zero
  | succ n =>
    obtain ⟨fs, hu, hs⟩ := fields_of (P := Tryd.prog) (t := 32) (sig := [(29, 0), (30, 1)]) (by kernel_rfl)
    obtain ⟨f0, r0, rfl, t0, o0, hs⟩ := fields_cons hs
    obtain ⟨f1, r1, rfl, t1, o1, hs⟩ := fields_cons hs
    obtain rfl := fields_nil hs
    refine (reads_struct (L := 2) hu cells_32 (g := fun x : List (List Int) × List Bool × Unit => (V.lst (x.1.map ints)).cells ++ ((V.lst (x.2.1.map V.bool)).cells ++ [])) (fun _ => rfl)
      (reads_fs_cons (f := fun T : List (List Int) => .lst (T.map ints)) (z := 1) o0 (by rw [t0]; exact cells_29) (fun _ => rfl) (by rw [t0]; exact reads_rows n)
        (reads_fs_cons (f := fun F : List Bool => .lst (F.map V.bool)) (z := 1) o1 (by rw [t1]; exact cells_30) (fun _ => rfl) (by rw [t1]; exact reads_bools n) reads_fs_nil))).as id (fun _ => rfl) (fun _ _ => trivial) (fun _ => Nat.zero_le _)

end Go.Proofs.YtmjglpdfkkmcoaaDoor

/-! The least machine, its states in the order in which they are met: it is one and the same however it is made. No conditions. -/
namespace Go.Proofs.YtmjglpdfkkmcoaaDoor

abbrev Lng := List Nat → Bool
def dvL (L : Lng) (c : Nat) : Lng := fun w => L (c :: w)
def deadL (L : Lng) : Prop := ∀ w, L w = false
def lngT (T : List (List Int)) (F : List Bool) (x : Nat) : Lng := fun w => w.all (fun c => decide (c < 8)) && fnF F (w.foldl (nxT T) x)
theorem lng_nx {T : List (List Int)} {F : List Bool} {x c : Nat} (hc : c < 8) : lngT T F (nxT T x c) = dvL (lngT T F x) c := by
  funext w
  simp [lngT, dvL, hc]
theorem lng_nil {T : List (List Int)} {F : List Bool} {x : Nat} : lngT T F x [] = fnF F x := by simp [lngT]
theorem lng_ext {T T' : List (List Int)} {F F' : List Bool} {x y : Nat} (h : ∀ w, wordOk w → fnF F (w.foldl (nxT T) x) = fnF F' (w.foldl (nxT T') y)) : lngT T F x = lngT T' F' y := by
  funext w
  unfold lngT
  by_cases hw : wordOk w
  · rw [h w hw]
  · have : w.all (fun c => decide (c < 8)) = false := by
      rw [Bool.eq_false_iff]
      intro e
      exact hw fun c hc => of_decide_eq_true (List.all_eq_true.1 e c hc)
    rw [this, Bool.false_and, Bool.false_and]
theorem lng_word {T T' : List (List Int)} {F F' : List Bool} {x y : Nat} (h : lngT T F x = lngT T' F' y) (w : List Nat) (hw : wordOk w) : fnF F (w.foldl (nxT T) x) = fnF F' (w.foldl (nxT T') y) := by
  have := congrFun h w
  unfold lngT at this
  have e : w.all (fun c => decide (c < 8)) = true := List.all_eq_true.2 fun c hc => decide_eq_true (hw c hc)
  rwa [e, Bool.true_and, Bool.true_and] at this
/-- States met so far (what they mean), and where the first of them lead, one letter behind another. -/
structure BInv (L0 : Lng) (ls : List Lng) (W : List Int) : Prop where
  first : ls[0]? = some L0
  live : ∀ L ∈ ls, ¬ deadL L
  nodup : ∀ (i j : Nat) (L : Lng), ls[i]? = some L → ls[j]? = some L → i = j
  bound : W.length ≤ 8 * ls.length
  step : ∀ (p : Nat) (v : Int), W[p]? = some v → ∃ L, ls[p / 8]? = some L ∧ ((v = -1 ∧ deadL (dvL L (p % 8))) ∨ ∃ j : Nat, v = j ∧ ls[j]? = some (dvL L (p % 8)))
  order : ∀ j : Nat, 1 ≤ j → j < ls.length → ∃ p : Nat, p / 8 < j ∧ W[p]? = some (j : Int) ∧ ∀ q, q < p → ∀ v, W[q]? = some v → v < j
theorem BInv.start {L0 : Lng} (h : ¬ deadL L0) : BInv L0 [L0] [] where
  first := rfl
  live := fun L hL => by simp at hL; subst hL; exact h
  nodup := fun i j L hi hj => by
    have h1 := (List.getElem?_eq_some_iff.1 hi).1
    have h2 := (List.getElem?_eq_some_iff.1 hj).1
    simp at h1 h2
    omega
  bound := by simp
  step := fun p v h => by simp at h
  order := fun j h1 h2 => by simp at h2; omega
section
variable {L0 : Lng} {ls : List Lng} {W : List Int}
theorem get_snoc {α : Type} {l : List α} {x y : α} {p : Nat} (h : (l ++ [x])[p]? = some y) : l[p]? = some y ∨ (p = l.length ∧ y = x) := by
  rw [List.getElem?_append] at h
  split at h
  · exact .inl h
  · match hk : p - l.length with
    | 0 => rw [hk] at h; cases h; exact .inr ⟨by omega, rfl⟩
    | k + 1 => rw [hk] at h; simp at h
theorem get_was {α : Type} {l m : List α} {y : α} {p : Nat} (h : l[p]? = some y) : (l ++ m)[p]? = some y := by
  rw [List.getElem?_append_left (List.getElem?_eq_some_iff.1 h).1]
  exact h
theorem BInv.vals (h : BInv L0 ls W) {p : Nat} {v : Int} (hv : W[p]? = some v) : v < ls.length := by
  obtain ⟨L, h1, h2 | ⟨j, rfl, h2⟩⟩ := h.step p v hv
  · have := (List.getElem?_eq_some_iff.1 h1).1
    omega
  · have := (List.getElem?_eq_some_iff.1 h2).1
    omega
theorem BInv.put (h : BInv L0 ls W) {L : Lng} (hL : ls[W.length / 8]? = some L) {v : Int} (hv : (v = -1 ∧ deadL (dvL L (W.length % 8))) ∨ ∃ j : Nat, v = j ∧ ls[j]? = some (dvL L (W.length % 8))) : BInv L0 ls (W ++ [v]) where
  first := h.first
  live := h.live
  nodup := h.nodup
  bound := by
    have := (List.getElem?_eq_some_iff.1 hL).1
    simp
    omega
  step := fun p u hu => by
    rcases get_snoc hu with hu | ⟨rfl, rfl⟩
    · exact h.step p u hu
    · exact ⟨L, hL, hv⟩
  order := fun j h1 h2 => by
    obtain ⟨p, a, b, c⟩ := h.order j h1 h2
    refine ⟨p, a, get_was b, fun q hq u hu => ?_⟩
    rcases get_snoc hu with hu | ⟨rfl, rfl⟩
    · exact c q hq u hu
    · have := (List.getElem?_eq_some_iff.1 b).1
      omega
theorem BInv.grow (h : BInv L0 ls W) {L : Lng} (hL : ls[W.length / 8]? = some L) (hn : dvL L (W.length % 8) ∉ ls) (hd : ¬ deadL (dvL L (W.length % 8))) : BInv L0 (ls ++ [dvL L (W.length % 8)]) (W ++ [(ls.length : Int)]) where
  first := get_was h.first
  live := fun M hM => by
    rcases List.mem_append.1 hM with hM | hM
    · exact h.live M hM
    · simp at hM; subst hM; exact hd
  nodup := fun i j M hi hj => by
    rcases get_snoc hi with hi | ⟨rfl, rfl⟩
    · rcases get_snoc hj with hj | ⟨rfl, rfl⟩
      · exact h.nodup i j M hi hj
      · exact absurd (List.mem_of_getElem? hi) hn
    · rcases get_snoc hj with hj | ⟨rfl, _⟩
      · exact absurd (List.mem_of_getElem? hj) hn
      · rfl
  bound := by
    have := (List.getElem?_eq_some_iff.1 hL).1
    simp
    omega
  step := fun p u hu => by
    rcases get_snoc hu with hu | ⟨rfl, rfl⟩
    · obtain ⟨M, a, b⟩ := h.step p u hu
      exact ⟨M, get_was a, b.imp id fun ⟨j, c, d⟩ => ⟨j, c, get_was d⟩⟩
    · exact ⟨L, get_was hL, .inr ⟨ls.length, rfl, by simp⟩⟩
  order := fun j h1 h2 => by
    by_cases hj : j < ls.length
    · obtain ⟨p, a, b, c⟩ := h.order j h1 hj
      refine ⟨p, a, get_was b, fun q hq u hu => ?_⟩
      rcases get_snoc hu with hu | ⟨rfl, rfl⟩
      · exact c q hq u hu
      · have := (List.getElem?_eq_some_iff.1 b).1
        omega
    · have hj' : j = ls.length := by simp at h2; omega
      subst hj'
      refine ⟨W.length, (List.getElem?_eq_some_iff.1 hL).1, by simp, fun q hq u hu => ?_⟩
      rcases get_snoc hu with hu | ⟨rfl, rfl⟩
      · exact h.vals hu
      · omega
/-- All of it. -/
structure Canon (L0 : Lng) (ls : List Lng) (W : List Int) : Prop where
  inv : BInv L0 ls W
  full : W.length = 8 * ls.length
theorem Canon.at (h : Canon L0 ls W) {p : Nat} (hp : p / 8 < ls.length) : ∃ v, W[p]? = some v := ⟨_, List.getElem?_eq_getElem (by rw [h.full]; omega)⟩
theorem dead_of {L : Lng} (h : deadL L) (h2 : ¬ deadL L) : False := h2 h
theorem canon_step {ls' : List Lng} {W' : List Int} (h : Canon L0 ls W) (h' : Canon L0 ls' W') {j : Nat} (ih : ∀ i, i < j → ∀ L L', ls[i]? = some L → ls'[i]? = some L' → L = L') (h1 : 1 ≤ j) (hj : j < ls.length) (hj' : j ≤ ls'.length) :
    ∃ (p k : Nat) (L : Lng), ls[j]? = some L ∧ (∀ q, q < p → ∀ v, W[q]? = some v → v < j) ∧ W[p]? = some (j : Int) ∧ W'[p]? = some (k : Int) ∧ ls'[k]? = some L ∧ j ≤ k := by
  obtain ⟨p, a, b, c⟩ := h.inv.order j h1 hj
  obtain ⟨M, hM, hs⟩ := h.inv.step p j b
  have hs2 : ls[j]? = some (dvL M (p % 8)) := by
    rcases hs with ⟨e, _⟩ | ⟨i, e, hs⟩
    · omega
    · obtain rfl : j = i := by omega
      exact hs
  have hlive := h.inv.live _ (List.mem_of_getElem? hs2)
  obtain ⟨M', hM'⟩ : ∃ M', ls'[p / 8]? = some M' := ⟨_, List.getElem?_eq_getElem (by omega)⟩
  obtain rfl := ih _ a M M' hM hM'
  obtain ⟨v, hv⟩ := h'.at (p := p) (by omega)
  obtain ⟨M2, hM2, hs'⟩ := h'.inv.step p v hv
  rw [hM'] at hM2
  cases hM2
  rcases hs' with ⟨_, hd⟩ | ⟨k, rfl, hk⟩
  · exact absurd hd hlive
  · refine ⟨p, k, _, hs2, c, b, hv, hk, Decidable.byContradiction fun hlt => ?_⟩
    obtain ⟨K, hK⟩ : ∃ K, ls[k]? = some K := ⟨_, List.getElem?_eq_getElem (by omega)⟩
    have := ih k (by omega) K _ hK hk
    subst this
    have := h.inv.nodup k j _ hK hs2
    omega
theorem canon_same {ls' : List Lng} {W' : List Int} (h : Canon L0 ls W) (h' : Canon L0 ls' W') : ∀ (j : Nat) (L L' : Lng), ls[j]? = some L → ls'[j]? = some L' → L = L' := by
  intro j
  induction j using Nat.strongRecOn with
  | _ j ih =>
    intro L L' hL hL'
    by_cases h0 : j = 0
    · subst h0
      rw [h.inv.first] at hL
      rw [h'.inv.first] at hL'
      cases hL; cases hL'; rfl
    · have l1 := (List.getElem?_eq_some_iff.1 hL).1
      have l2 := (List.getElem?_eq_some_iff.1 hL').1
      obtain ⟨p, k, K, a1, a2, a3, a4, a5, a6⟩ := canon_step h h' ih (by omega) l1 (by omega)
      obtain ⟨q, m, M, b1, b2, b3, b4, b5, b6⟩ := canon_step h' h (fun i hi X Y hX hY => (ih i hi Y X hY hX).symm) (by omega) l2 (by omega)
      rw [hL] at a1
      cases a1
      rw [hL'] at b1
      cases b1
      rcases Nat.lt_trichotomy p q with hpq | rfl | hpq
      · have := b2 p hpq _ a4
        omega
      · rw [a4] at b3
        simp only [Option.some.injEq, Int.natCast_inj] at b3
        subst b3
        rw [hL'] at a5
        cases a5
        rfl
      · have := a2 q hpq _ b4
        omega
theorem canon_len {ls' : List Lng} {W' : List Int} (h : Canon L0 ls W) (h' : Canon L0 ls' W') : ls.length ≤ ls'.length := by
  refine Decidable.byContradiction fun hn => ?_
  have h0 := (List.getElem?_eq_some_iff.1 h'.inv.first).1
  obtain ⟨p, k, K, a1, a2, a3, a4, a5, a6⟩ := canon_step h h' (j := ls'.length) (fun i _ => canon_same h h' i) (by omega) (by omega) (Nat.le_refl _)
  have := (List.getElem?_eq_some_iff.1 a5).1
  omega
theorem canon_eq {ls' : List Lng} {W' : List Int} (h : Canon L0 ls W) (h' : Canon L0 ls' W') : ls = ls' ∧ W = W' := by
  have hl : ls.length = ls'.length := Nat.le_antisymm (canon_len h h') (canon_len h' h)
  have e : ls = ls' := by
    apply List.ext_getElem? 
    intro i
    by_cases hi : i < ls.length
    · rw [List.getElem?_eq_getElem hi, List.getElem?_eq_getElem (by omega)]
      exact congrArg some (canon_same h h' i _ _ (List.getElem?_eq_getElem hi) (List.getElem?_eq_getElem (by omega)))
    · rw [List.getElem?_eq_none (by omega), List.getElem?_eq_none (by omega)]
  subst e
  refine ⟨rfl, ?_⟩
  have hw : W.length = W'.length := by rw [h.full, h'.full]
  apply List.ext_getElem?
  intro p
  by_cases hp : p < W.length
  · obtain ⟨v, hv⟩ : ∃ v, W[p]? = some v := ⟨_, List.getElem?_eq_getElem hp⟩
    obtain ⟨v', hv'⟩ : ∃ v, W'[p]? = some v := ⟨_, List.getElem?_eq_getElem (by omega)⟩
    rw [hv, hv']
    obtain ⟨L, a, b⟩ := h.inv.step p v hv
    obtain ⟨L', a', b'⟩ := h'.inv.step p v' hv'
    rw [a] at a'
    cases a'
    rcases b with ⟨rfl, b⟩ | ⟨j, rfl, b⟩ <;> rcases b' with ⟨rfl, b'⟩ | ⟨j', rfl, b'⟩
    · rfl
    · exact absurd b (h.inv.live _ (List.mem_of_getElem? b'))
    · exact absurd b' (h.inv.live _ (List.mem_of_getElem? b))
    · rw [h.inv.nodup j j' _ b b']
  · rw [List.getElem?_eq_none (by omega), List.getElem?_eq_none (by omega)]
/-- The machine itself: its rows, and which of its states are ends. -/
structure CanonM (L0 : Lng) (R : List (List Int)) (G : List Bool) : Prop where
  ex : ∃ ls, Canon L0 ls R.flatten ∧ G = ls.map fun L => L []
  row : ∀ r ∈ R, r.length = 8
theorem flat_eq {R R' : List (List Int)} (h : ∀ r ∈ R, r.length = 8) (h' : ∀ r ∈ R', r.length = 8) (e : R.flatten = R'.flatten) : R = R' := by
  induction R generalizing R' with
  | nil =>
    cases R' with
    | nil => rfl
    | cons r' R' =>
      have h8 := h' r' (by simp)
      rw [List.flatten_cons, List.flatten_nil] at e
      have := congrArg List.length e
      rw [List.length_append, h8, List.length_nil] at this
      omega
  | cons r R ih =>
    cases R' with
    | nil =>
      have h8 := h r (by simp)
      rw [List.flatten_cons, List.flatten_nil] at e
      have := congrArg List.length e
      rw [List.length_append, h8, List.length_nil] at this
      omega
    | cons r' R' =>
      rw [List.flatten_cons, List.flatten_cons] at e
      obtain ⟨e1, e2⟩ := List.append_inj e (by rw [h r (by simp), h' r' (by simp)])
      rw [e1, ih (fun q hq => h q (by simp [hq])) (fun q hq => h' q (by simp [hq])) e2]
theorem canonM_eq {R R' : List (List Int)} {G G' : List Bool} (h : CanonM L0 R G) (h' : CanonM L0 R' G') : R = R' ∧ G = G' := by
  obtain ⟨ls, h1, h2⟩ := h.ex
  obtain ⟨ls', h1', h2'⟩ := h'.ex
  obtain ⟨e1, e2⟩ := canon_eq h1 h1'
  exact ⟨flat_eq h.row h'.row e2, by rw [h2, h2', e1]⟩
end
end Go.Proofs.YtmjglpdfkkmcoaaDoor

/-! Live states, and classes of states that mean the same (Moore): the plain law. No conditions. -/
namespace Go.Proofs.YtmjglpdfkkmcoaaDoor

/-- Rows that lead to states, and ends. -/
structure WF (n : Nat) (N : List (List Int)) (F : List Bool) : Prop where
  lenN : N.length = n
  lenF : F.length = n
  rows : ∀ r ∈ N, r.length = 8 ∧ ∀ x ∈ r, 0 ≤ x ∧ x < n
theorem WF.get {n : Nat} {N : List (List Int)} {F : List Bool} (h : WF n N F) {i c : Nat} (hi : i < n) (hc : c < 8) : ∃ (row : List Int) (x : Int), N[i]? = some row ∧ row.length = 8 ∧ row[c]? = some x ∧ 0 ≤ x ∧ x < n ∧ nxT N i c = x.toNat := by
  obtain ⟨row, hrow⟩ : ∃ b, N[i]? = some b := ⟨_, List.getElem?_eq_getElem (by rw [h.lenN]; exact hi)⟩
  obtain ⟨h8, hx⟩ := h.rows row (List.mem_of_getElem? hrow)
  obtain ⟨x, hxc⟩ : ∃ b, row[c]? = some b := ⟨_, List.getElem?_eq_getElem (by omega)⟩
  obtain ⟨h1, h2⟩ := hx x (List.mem_of_getElem? hxc)
  exact ⟨row, x, hrow, h8, hxc, h1, h2, by simp [nxT, hrow, hxc]⟩
theorem WF.nx {n : Nat} {N : List (List Int)} {F : List Bool} (h : WF n N F) {i c : Nat} (hi : i < n) (hc : c < 8) : nxT N i c < n := by
  obtain ⟨_, x, _, _, _, h1, h2, e⟩ := h.get hi hc
  rw [e]; omega
theorem WF.fin {n : Nat} {N : List (List Int)} {F : List Bool} (h : WF n N F) {i : Nat} (hi : i < n) : F[i]? = some (fnF F i) := by
  obtain ⟨b, hb⟩ : ∃ b, F[i]? = some b := ⟨_, List.getElem?_eq_getElem (by rw [h.lenF]; exact hi)⟩
  simp [fnF, hb]
/-! ### Live -/
def aliveW (N : List (List Int)) (F : List Bool) (i : Nat) : Prop := ∃ w, wordOk w ∧ fnF F (w.foldl (nxT N) i) = true
theorem alive_iff {N : List (List Int)} {F : List Bool} {i : Nat} : aliveW N F i ↔ ¬ deadL (lngT N F i) := by
  constructor
  · rintro ⟨w, hw, hf⟩ hd
    have := hd w
    unfold lngT at this
    rw [hf, Bool.and_true] at this
    have e : w.all (fun c => decide (c < 8)) = true := List.all_eq_true.2 fun c hc => decide_eq_true (hw c hc)
    rw [e] at this
    cases this
  · intro hd
    refine Classical.byContradiction fun hn => hd fun w => ?_
    unfold lngT
    by_cases hw : w.all (fun c => decide (c < 8)) = true
    · have hok : wordOk w := fun c hc => of_decide_eq_true (List.all_eq_true.1 hw c hc)
      have : fnF F (w.foldl (nxT N) i) = false := by
        cases h : fnF F (w.foldl (nxT N) i) with
        | false => rfl
        | true => exact absurd ⟨w, hok, h⟩ hn
      rw [this, Bool.and_false]
    · have : w.all (fun c => decide (c < 8)) = false := by simpa using hw
      rw [this, Bool.false_and]
def bt (D : List Bool) (i : Nat) : Bool := (D[i]?).getD false
def cn1 (D : List Bool) : Nat := D.countP fun b => !b
structure Lsd (N : List (List Int)) (F : List Bool) (n : Nat) (D : List Bool) : Prop where
  len : D.length = n
  sound : ∀ i, i < n → bt D i = true → aliveW N F i
  base : ∀ i, i < n → fnF F i = true → bt D i = true
theorem bt_get {D : List Bool} {n i : Nat} (h : D.length = n) (hi : i < n) : D[i]? = some (bt D i) := by
  obtain ⟨b, hb⟩ : ∃ b, D[i]? = some b := ⟨_, List.getElem?_eq_getElem (by omega)⟩
  simp [bt, hb]
theorem bt_set {D : List Bool} {n i : Nat} (h : D.length = n) (hi : i < n) (j : Nat) : bt (D.set i true) j = if j = i then true else bt D j := by
  unfold bt
  rw [List.getElem?_set]
  by_cases e : i = j
  · subst e; simp [h, hi]
  · rw [if_neg e, if_neg (Ne.symm e)]
structure LInv (N : List (List Int)) (F : List Bool) (n : Nat) (D0 D : List Bool) (more : Bool) (i c : Nat) : Prop where
  lsd : Lsd N F n D
  so : (more = false ∧ D = D0 ∧ ∀ i' c', i' < n → c' < 8 → (i' < i ∨ (i' = i ∧ c' < c)) → bt D (nxT N i' c') = true → bt D i' = true) ∨ (more = true ∧ cn1 D < cn1 D0)
section
variable {N : List (List Int)} {F : List Bool} {n : Nat} {D0 D : List Bool} {more : Bool} {i c : Nat}
theorem LInv.start (h : Lsd N F n D) : LInv N F n D D false 0 0 := ⟨h, .inl ⟨rfl, rfl, fun i' c' _ _ h => by omega⟩⟩
theorem LInv.pass (h : LInv N F n D0 D more i c) (hf : bt D (nxT N i c) = false ∨ bt D i = true) : LInv N F n D0 D more i (c + 1) := ⟨h.lsd, h.so.imp (fun ⟨h1, h2, h3⟩ => ⟨h1, h2, fun i' c' a d e f => by
  by_cases hh : i' = i ∧ c' = c
  · obtain ⟨rfl, rfl⟩ := hh
    rcases hf with hf | hf
    · rw [hf] at f; cases f
    · exact hf
  · exact h3 i' c' a d (by omega) f⟩) id⟩
theorem LInv.row (h : LInv N F n D0 D more i c) (hc : 8 ≤ c) : LInv N F n D0 D more (i + 1) 0 := ⟨h.lsd, h.so.imp (fun ⟨h1, h2, h3⟩ => ⟨h1, h2, fun i' c' a d e f => h3 i' c' a d (by omega) f⟩) id⟩
theorem LInv.put (h : LInv N F n D0 D more i c) (hnx : ∀ i c, i < n → c < 8 → nxT N i c < n) (hi : i < n) (hc : c < 8) (hf : bt D i = false) (hd : bt D (nxT N i c) = true) (c' : Nat) : LInv N F n D0 (D.set i true) true i c' := by
  have hl := h.lsd.len
  refine ⟨⟨by simp [hl], fun j hj e => ?_, fun j hj e => ?_⟩, .inr ⟨rfl, ?_⟩⟩
  · rw [bt_set hl hi] at e
    split at e
    · rename_i e2
      subst e2
      obtain ⟨w, hw, hn⟩ := h.lsd.sound _ (hnx j c hj hc) hd
      exact ⟨c :: w, fun d hd => by rcases List.mem_cons.1 hd with rfl | hd; exact hc; exact hw d hd, hn⟩
    · exact h.lsd.sound j hj e
  · rw [bt_set hl hi]
    split
    · rfl
    · exact h.lsd.base j hj e
  · have h1 := count_set D i (by rw [bt_get hl hi, hf])
    rcases h.so with ⟨_, rfl, _⟩ | ⟨_, h2⟩
    · unfold cn1; omega
    · unfold cn1 at h2 ⊢; omega
theorem live_of_closed (hnx : ∀ i c, i < n → c < 8 → nxT N i c < n) (h : Lsd N F n D) (hc : ∀ i c, i < n → c < 8 → bt D (nxT N i c) = true → bt D i = true) : ∀ i, i < n → (bt D i = true ↔ aliveW N F i) := by
  have key : ∀ (w : List Nat) (i : Nat), i < n → wordOk w → fnF F (w.foldl (nxT N) i) = true → bt D i = true := by
    intro w
    induction w with
    | nil => exact fun i hi _ hf => h.base i hi hf
    | cons c w ih => exact fun i hi hw hf => hc i c hi (hw c (by simp)) (ih _ (hnx i c hi (hw c (by simp))) (fun d hd => hw d (by simp [hd])) hf)
  exact fun i hi => ⟨h.sound i hi, fun ⟨w, hw, hf⟩ => key w i hi hw hf⟩
theorem LInv.done (h : LInv N F n D0 D false i c) (hi : n ≤ i) (hnx : ∀ i c, i < n → c < 8 → nxT N i c < n) : ∀ i, i < n → (bt D i = true ↔ aliveW N F i) := by
  rcases h.so with ⟨_, _, h3⟩ | ⟨h1, _⟩
  · exact live_of_closed hnx h.lsd fun i' c' a b e => h3 i' c' a b (by omega) e
  · cases h1
end
/-! ### Classes -/
def ci (C : List Int) (i : Nat) : Int := (C[i]?).getD (-1)
def sigF (N : List (List Int)) (C : List Int) (i : Nat) : List Int := ci C i :: (List.range 8).map fun c => ci C (nxT N i c)
structure Part (N : List (List Int)) (F : List Bool) (n : Nat) (C : List Int) : Prop where
  len : C.length = n
  neg : ∀ i, i < n → ¬ aliveW N F i → ci C i = -1
  pos : ∀ i, i < n → aliveW N F i → 0 ≤ ci C i
  same : ∀ i j, i < n → j < n → lngT N F i = lngT N F j → ci C i = ci C j
  fin : ∀ i j, i < n → j < n → aliveW N F i → ci C i = ci C j → fnF F i = fnF F j
def Numb (n : Nat) (C : List Int) (k : Nat) : Prop := (∀ i, i < n → 0 ≤ ci C i → ci C i < k) ∧ ∀ j : Nat, j < k → ∃ i, i < n ∧ ci C i = j
/-- A round: by what a state is, and by where it leads, numbered as they are met. -/
structure Rnd (N : List (List Int)) (n : Nat) (C C' : List Int) (M : List (List Int × Int)) : Prop where
  len : C'.length = n
  neg : ∀ i, i < n → ci C i < 0 → ci C' i = -1
  pos : ∀ i, i < n → 0 ≤ ci C i → lookM (sigF N C i) M = some (ci C' i)
  idx : ∀ (j : Nat) (q : List Int × Int), M[j]? = some q → q.2 = (j : Int) ∧ ∃ i, i < n ∧ 0 ≤ ci C i ∧ q.1 = sigF N C i
  nodup : (M.map (·.1)).Nodup
section
variable {N : List (List Int)} {F : List Bool} {n : Nat} {C C' : List Int} {M : List (List Int × Int)}
theorem look_idx {α : Type} [DecidableEq α] {a : α} {M : List (α × Int)} (hn : (M.map (·.1)).Nodup) {j : Nat} {v : Int} (h : M[j]? = some (a, v)) : lookM a M = some v := by
  induction M generalizing j with
  | nil => simp at h
  | cons q M ih =>
    rw [look_cons]
    cases j with
    | zero => simp at h; subst h; simp
    | succ j =>
      simp only [List.getElem?_cons_succ] at h
      simp only [List.map_cons, List.nodup_cons] at hn
      rw [if_neg]
      · exact ih hn.2 h
      · intro e
        exact hn.1 (e ▸ List.mem_map.2 ⟨_, List.mem_of_getElem? h, rfl⟩)
theorem Rnd.val (h : Rnd N n C C' M) {i : Nat} (hi : i < n) (hp : 0 ≤ ci C i) : ∃ j : Nat, ci C' i = j ∧ j < M.length ∧ M[j]? = some (sigF N C i, (j : Int)) := by
  obtain ⟨j, hj⟩ := look_mem (h.pos i hi hp)
  have := (h.idx j _ hj).1
  exact ⟨j, this, (List.getElem?_eq_some_iff.1 hj).1, by rw [hj]; exact congrArg some (Prod.ext rfl this)⟩
theorem Rnd.sig (h : Rnd N n C C' M) {i j : Nat} (hi : i < n) (hj : j < n) (hp : 0 ≤ ci C i) (e : ci C' i = ci C' j) : sigF N C i = sigF N C j := by
  by_cases hq : 0 ≤ ci C j
  · obtain ⟨a, a1, _, a3⟩ := h.val hi hp
    obtain ⟨b, b1, _, b3⟩ := h.val hj hq
    obtain rfl : a = b := by omega
    rw [a3] at b3
    exact (Prod.ext_iff.1 (Option.some.inj b3)).1
  · obtain ⟨a, a1, _, _⟩ := h.val hi hp
    have := h.neg j hj (by omega)
    omega
theorem Rnd.eqv (h : Rnd N n C C' M) {i j : Nat} (hi : i < n) (hj : j < n) (hp : 0 ≤ ci C i) (e : sigF N C i = sigF N C j) : ci C' i = ci C' j := by
  have hq : 0 ≤ ci C j := by
    have : ci C i = ci C j := by simp only [sigF, List.cons.injEq] at e; exact e.1
    omega
  have h1 := h.pos i hi hp
  have h2 := h.pos j hj hq
  rw [e, h2] at h1
  exact (Option.some.inj h1).symm
theorem Part.alive (h : Part N F n C) {i : Nat} (hi : i < n) (hp : 0 ≤ ci C i) : aliveW N F i := Classical.byContradiction fun hn => by
  have := h.neg i hi hn
  omega
theorem part_round (hnx : ∀ i c, i < n → c < 8 → nxT N i c < n) (h : Part N F n C) (hr : Rnd N n C C' M) : Part N F n C' ∧ Numb n C' M.length := by
  have hal : ∀ i, i < n → ¬ aliveW N F i → ci C i < 0 := fun i hi hn => by have := h.neg i hi hn; omega
  refine ⟨⟨hr.len, fun i hi hn => hr.neg i hi (hal i hi hn), fun i hi ha => ?_, fun i j hi hj e => ?_, fun i j hi hj ha e => ?_⟩, fun i hi hp => ?_, fun j hj => ?_⟩
  · obtain ⟨j, a, _, _⟩ := hr.val hi (h.pos i hi ha)
    omega
  · by_cases ha : aliveW N F i
    · refine hr.eqv hi hj (h.pos i hi ha) ?_
      unfold sigF
      rw [h.same i j hi hj e]
      refine congrArg _ (List.map_congr_left fun c hc => ?_)
      have hc := List.mem_range.1 hc
      exact h.same _ _ (hnx i c hi hc) (hnx j c hj hc) (by rw [lng_nx hc, lng_nx hc, e])
    · have hb : ¬ aliveW N F j := by
        rw [alive_iff] at ha ⊢
        rw [← e]
        exact ha
      rw [hr.neg i hi (hal i hi ha), hr.neg j hj (hal j hj hb)]
  · have hs := hr.sig hi hj (h.pos i hi ha) e
    have : ci C i = ci C j := by simp only [sigF, List.cons.injEq] at hs; exact hs.1
    exact h.fin i j hi hj ha this
  · by_cases hq : 0 ≤ ci C i
    · obtain ⟨j, a, b, _⟩ := hr.val hi hq
      omega
    · have := hr.neg i hi (by omega)
      omega
  · obtain ⟨q, hq⟩ : ∃ q, M[j]? = some q := ⟨_, List.getElem?_eq_getElem hj⟩
    obtain ⟨e, i, hi, hp, e2⟩ := hr.idx j q hq
    refine ⟨i, hi, ?_⟩
    have h1 := look_idx hr.nodup (a := q.1) (v := q.2) hq
    have h2 := hr.pos i hi hp
    rw [← e2, h1] at h2
    exact (Option.some.inj h2).symm.trans e
/-- Numbers below k are numbered by numbers below m: at most as many; if as many, all are hit. -/
theorem inj_le {k m : Nat} (f : Nat → Nat) (hf : ∀ j, j < k → f j < m) (hi : ∀ i j, i < k → j < k → f i = f j → i = j) : k ≤ m ∧ (k = m → ∀ y, y < m → ∃ x, x < k ∧ f x = y) := by
  have hnd : ((List.range k).map f).Nodup := by
    refine List.Pairwise.map _ ?_ (List.Pairwise.and_mem.1 (List.nodup_range (n := k)))
    rintro a b ⟨ha, hb, hne⟩ e
    exact hne (hi a b (List.mem_range.1 ha) (List.mem_range.1 hb) e)
  constructor
  · have := nodup_below m ((List.range k).map f) hnd (fun x hx => by
      obtain ⟨j, hj, rfl⟩ := List.mem_map.1 hx
      exact hf j (List.mem_range.1 hj))
    simpa using this
  · intro e y hy
    refine Classical.byContradiction fun hn => ?_
    have := nodup_below m (y :: (List.range k).map f) (List.nodup_cons.2 ⟨fun hm => by
      obtain ⟨j, hj, e⟩ := List.mem_map.1 hm
      exact hn ⟨j, List.mem_range.1 hj, e⟩, hnd⟩) (fun x hx => by
      rcases List.mem_cons.1 hx with rfl | hx
      · exact hy
      · obtain ⟨j, hj, rfl⟩ := List.mem_map.1 hx
        exact hf j (List.mem_range.1 hj))
    simp at this
    omega
theorem cls_more (h : Part N F n C) (hr : Rnd N n C C' M) {many : Nat} (hm : many = 0 ∨ Numb n C many) : many ≤ M.length ∧ M.length ≤ n ∧ (M.length = many → ∀ i j, i < n → j < n → 0 ≤ ci C i → ci C i = ci C j → ci C' i = ci C' j) := by
  have hn2 : M.length ≤ n := by
    have hidx : ∀ j, j < M.length → ∃ i, i < n ∧ 0 ≤ ci C i ∧ ci C' i = j := fun j hj => by
      obtain ⟨q, hq⟩ : ∃ q, M[j]? = some q := ⟨_, List.getElem?_eq_getElem hj⟩
      obtain ⟨e, i, hi, hp, e2⟩ := hr.idx j q hq
      refine ⟨i, hi, hp, ?_⟩
      have h1 := look_idx hr.nodup (a := q.1) (v := q.2) hq
      have h2 := hr.pos i hi hp
      rw [← e2, h1] at h2
      exact (Option.some.inj h2).symm.trans e
    let g : Nat → Nat := fun j => if hj : j < M.length then (hidx j hj).choose else 0
    have hg : ∀ j (hj : j < M.length), g j < n ∧ ci C' (g j) = j := fun j hj => by
      have := (hidx j hj).choose_spec
      simp only [g, dif_pos hj]
      exact ⟨this.1, this.2.2⟩
    exact (inj_le g (fun j hj => (hg j hj).1) (fun i j hi hj e => by
      have h1 := (hg i hi).2
      have h2 := (hg j hj).2
      rw [e, h2] at h1
      omega)).1
  rcases hm with rfl | ⟨hm1, hm2⟩
  · refine ⟨by omega, hn2, fun e i j hi hj hp _ => ?_⟩
    obtain ⟨k, _, hk, _⟩ := hr.val hi hp
    omega
  · let rep : Nat → Nat := fun j => if hj : j < many then (hm2 j hj).choose else 0
    have hrep : ∀ j (hj : j < many), rep j < n ∧ ci C (rep j) = j := fun j hj => by
      have := (hm2 j hj).choose_spec
      simp only [rep, dif_pos hj]
      exact this
    let f : Nat → Nat := fun j => (ci C' (rep j)).toNat
    have hf : ∀ j (hj : j < many), f j < M.length ∧ ci C' (rep j) = f j := fun j hj => by
      obtain ⟨h1, h2⟩ := hrep j hj
      obtain ⟨k, a, b, _⟩ := hr.val h1 (by omega)
      simp only [f, a]
      exact ⟨by omega, by omega⟩
    have hfin : ∀ i j, i < many → j < many → f i = f j → i = j := fun i j hi hj e => by
      obtain ⟨h1, h2⟩ := hrep i hi
      obtain ⟨h3, h4⟩ := hrep j hj
      have hs := hr.sig h1 h3 (by omega) (by rw [(hf i hi).2, (hf j hj).2, e])
      have : ci C (rep i) = ci C (rep j) := by simp only [sigF, List.cons.injEq] at hs; exact hs.1
      omega
    obtain ⟨l1, l2⟩ := inj_le f (fun j hj => (hf j hj).1) hfin
    refine ⟨l1, hn2, fun e i j hi hj hp hij => ?_⟩
    have key : ∀ i, i < n → 0 ≤ ci C i → ci C' i = f (ci C i).toNat := fun i hi hp => by
      obtain ⟨k, a, b, _⟩ := hr.val hi hp
      obtain ⟨x, hx, ex⟩ := l2 e.symm k b
      obtain ⟨h1, h2⟩ := hrep x hx
      have hs := hr.sig hi h1 hp (by rw [(hf x hx).2, ex, a])
      have : ci C i = ci C (rep x) := by simp only [sigF, List.cons.injEq] at hs; exact hs.1
      have e3 : (ci C i).toNat = x := by omega
      rw [e3, ex, a]
    rw [key i hi hp, key j hj (by omega), hij]
/-- The classes: which states mean the same. -/
structure Cls (N : List (List Int)) (F : List Bool) (n : Nat) (C : List Int) : Prop where
  part : Part N F n C
  lng : ∀ i j, i < n → j < n → ci C i = ci C j → lngT N F i = lngT N F j
theorem cls_done (hnx : ∀ i c, i < n → c < 8 → nxT N i c < n) (h : Part N F n C) (hr : Rnd N n C C' M) {many : Nat} (hm : many = 0 ∨ Numb n C many) (e : M.length = many) : Cls N F n C' := by
  obtain ⟨hp', hn'⟩ := part_round hnx h hr
  obtain ⟨_, _, hst⟩ := cls_more h hr hm
  have hst := hst e
  refine ⟨hp', fun i j hi hj hij => ?_⟩
  have hdead : ∀ i j, i < n → j < n → ci C' i = ci C' j → (aliveW N F i ↔ aliveW N F j) := fun i j hi hj e => by
    constructor
    · intro ha
      have := hp'.pos i hi ha
      exact hp'.alive hj (by omega)
    · intro ha
      have := hp'.pos j hj ha
      exact hp'.alive hi (by omega)
  have key : ∀ (w : List Nat) (i j : Nat), i < n → j < n → ci C' i = ci C' j → wordOk w → fnF F (w.foldl (nxT N) i) = fnF F (w.foldl (nxT N) j) := by
    intro w
    induction w with
    | nil =>
      intro i j hi hj hij _
      by_cases ha : aliveW N F i
      · exact hp'.fin i j hi hj ha hij
      · have hb := fun x => ha ((hdead i j hi hj hij).2 x)
        have z : ∀ k, ¬ aliveW N F k → fnF F k = false := fun k hk => by
          cases hf : fnF F k with
          | false => rfl
          | true => exact absurd ⟨[], by simp [wordOk], hf⟩ hk
        show fnF F i = fnF F j
        rw [z i ha, z j hb]
    | cons c w ih =>
      intro i j hi hj hij hw
      have hc := hw c (by simp)
      have hw' : wordOk w := fun d hd => hw d (by simp [hd])
      by_cases ha : aliveW N F i
      · have hs := hr.sig hi hj (h.pos i hi ha) hij
        have hcc : ci C (nxT N i c) = ci C (nxT N j c) := by
          simp only [sigF, List.cons.injEq] at hs
          have h1 := congrArg (fun l : List Int => l[c]?) hs.2
          simp only [List.getElem?_map, List.getElem?_range hc, Option.map_some, Option.some.injEq] at h1
          exact h1
        refine ih _ _ (hnx i c hi hc) (hnx j c hj hc) ?_ hw'
        by_cases hq : 0 ≤ ci C (nxT N i c)
        · exact hst _ _ (hnx i c hi hc) (hnx j c hj hc) hq hcc
        · rw [hr.neg _ (hnx i c hi hc) (by omega), hr.neg _ (hnx j c hj hc) (by omega)]
      · have hb := fun x => ha ((hdead i j hi hj hij).2 x)
        have z : ∀ k, ¬ aliveW N F k → fnF F ((c :: w).foldl (nxT N) k) = false := fun k hk => by
          cases hf : fnF F ((c :: w).foldl (nxT N) k) with
          | false => rfl
          | true => exact absurd ⟨c :: w, hw, hf⟩ hk
        rw [z i ha, z j hb]
  exact lng_ext fun w hw => key w i j hi hj hij hw
end
end Go.Proofs.YtmjglpdfkkmcoaaDoor

/-! Which states of a wide machine are live, walked. No conditions. -/
namespace Go.Proofs.YtmjglpdfkkmcoaaDoor
open Go.RowKit

def wideV (N : List (List Int)) (F : List Bool) : V := .agg [.lst (N.map rowA), .lst (F.map V.bool)]
theorem rowsA_at {N : List (List Int)} {i : Nat} {r : List Int} (h : N[i]? = some r) : (N.map rowA)[Int.toNat (i : Int)]? = some (rowA r) := by
  rw [Int.toNat_natCast, List.getElem?_map, h]; rfl
theorem bools_to {r : List Bool} {x : Int} {b : Bool} (h : r[x.toNat]? = some b) : (r.map V.bool)[0 + Int.toNat x]? = some (.bool b) := by
  rw [Nat.zero_add, List.getElem?_map, h]; rfl
set_option maxHeartbeats 16000000 in
theorem live_walk {N : List (List Int)} {F : List Bool} {n : Nat} (h : WF n N F) (hn2 : n ≤ 1048576) :
    Fn1 Tryd.prog 46 [wideV N F] (fun r => ∃ D : List Bool, r = .lst (D.map V.bool) ∧ D.length = n ∧ ∀ i, i < n → (bt D i = true ↔ aliveW N F i)) := by
  have hNm : (N.map rowA).length = N.length := by simp
  have hFm : (F.map V.bool).length = F.length := by simp
  have hNl := h.lenN
  have hFl := h.lenF
  have hnx : ∀ i c, i < n → c < 8 → nxT N i c < n := fun i c hi hc => h.nx hi hc
  have hcl := h_clone_bool F (by omega)
  have hs0 : Lsd N F n F := ⟨h.lenF, fun i hi e => ⟨[], by simp [wordOk], by simpa [bt, fnF] using e⟩, fun i hi e => by simpa [bt, fnF] using e⟩
  unfold wideV
  refine fn1E (T := Tryd.tt) Tryd.func46 rfl tt_all follows_all ?_ ?_ fun C hC hE => ?_
  · kernel_rfl
  · exact Nat.le_of_ble_eq_true (by kernel_rfl)
  conv => whnf
  repeat' (first | (refine brd_t (by first | assumption | omega) ?_; conv => whnf) | (refine brd_f (by first | assumption | omega) ?_; conv => whnf) | (refine ask (by first | assumption | omega) ?_; conv => whnf) | (refine fit64 (by omega) ?_; conv => whnf) | (refine fit (by simp only [kmin, kmax]; omega) ?_; conv => whnf) | (refine br_t (by assumption) ?_; conv => whnf) | (refine br_f (by assumption) ?_; conv => whnf) | (refine get_of (by assumption) ?_; conv => whnf) | (refine get_map (by assumption) ?_; conv => whnf) | (refine call_up (up_new 1 (up_here ?_)); (conv => whnf); refine call_fresh hcl hC hasBody_49 1 rfl ?_ rfl (nr_bools _) ?_; exact rnL_self ⟨trivial, trivial⟩; conv => whnf) | (refine draw_lex hE ?_ ?_; decide +kernel; conv => whnf) | (refine brd (fun h => ?_) (fun h => ?_) <;> conv => whnf) | (refine br (fun h => ?_) (fun h => ?_) <;> conv => whnf) | (refine ret_now hE ?_; conv => whnf) | (intro hlen; conv => whnf) | (refine seg_here ?_; conv => whnf) | (refine both ?_ ?_ <;> conv => whnf))
  refine loopE (fun ((D, more) : List Bool × Bool) => ⟨46, [(1, .rp [.lst (N.map rowA), .lst (F.map V.bool)]), (3, .sl 1 0 n), (4, .bool more)], [none, some (.row 1 (D.map V.bool))]⟩)
    (fun (D, more) => Lsd N F n D ∧ (more = false → ∀ i, i < n → (bt D i = true ↔ aliveW N F i))) (fun (D, more) => 2 * cn1 D + more.toNat) (F, true) hE ?_ ?_ ⟨hs0, fun h => by cases h⟩ ?_
  · kernel_rfl
  · refine up_freeze 0 (z := 2) (els := [wideV N F]) rfl ⟨⟨trivial, trivial, trivial⟩, trivial⟩ (at_keep [1, 3, 4] ?_)
    conv => whnf
    rw [frz_nrL _ _ (nr_bools F), hFl]
    rfl
  rintro ⟨D0, more⟩ ⟨hS0, hmore⟩
  have hD0m : (D0.map V.bool).length = D0.length := by simp
  have hD0l := hS0.len
  cases more with
  | false =>
    conv => whnf
    repeat' (first | (refine brd_t (by first | assumption | omega) ?_; conv => whnf) | (refine brd_f (by first | assumption | omega) ?_; conv => whnf) | (refine ask (by first | assumption | omega) ?_; conv => whnf) | (refine fit64 (by omega) ?_; conv => whnf) | (refine fit (by simp only [kmin, kmax]; omega) ?_; conv => whnf) | (refine br_t (by assumption) ?_; conv => whnf) | (refine br_f (by assumption) ?_; conv => whnf) | (refine get_of (by assumption) ?_; conv => whnf) | (refine get_map (by assumption) ?_; conv => whnf) | (refine ret_up (up_frzK 1 2 [] rfl ?_ rfl ?_ rfl (up_here ?_))) | (refine draw_lex hE ?_ ?_; decide +kernel; conv => whnf) | (refine brd (fun h => ?_) (fun h => ?_) <;> conv => whnf) | (refine br (fun h => ?_) (fun h => ?_) <;> conv => whnf) | (refine ret_now hE ?_; conv => whnf) | (intro hlen; conv => whnf) | (refine seg_here ?_; conv => whnf) | (refine both ?_ ?_ <;> conv => whnf))
    · exact nr_bools D0
    · omega
    · exact ⟨rfl, D0, rfl, hS0.len, hmore rfl⟩
  | true =>
    conv => whnf
    repeat' (first | (refine brd_t (by first | assumption | omega) ?_; conv => whnf) | (refine brd_f (by first | assumption | omega) ?_; conv => whnf) | (refine ask (by first | assumption | omega) ?_; conv => whnf) | (refine fit64 (by omega) ?_; conv => whnf) | (refine fit (by simp only [kmin, kmax]; omega) ?_; conv => whnf) | (refine br_t (by assumption) ?_; conv => whnf) | (refine br_f (by assumption) ?_; conv => whnf) | (refine get_of (by assumption) ?_; conv => whnf) | (refine get_map (by assumption) ?_; conv => whnf) | (refine draw_lex hE ?_ ?_; decide +kernel; conv => whnf) | (refine brd (fun h => ?_) (fun h => ?_) <;> conv => whnf) | (refine br (fun h => ?_) (fun h => ?_) <;> conv => whnf) | (refine ret_now hE ?_; conv => whnf) | (intro hlen; conv => whnf) | (refine seg_here ?_; conv => whnf) | (refine both ?_ ?_ <;> conv => whnf))
    refine loopE (fun ((i, D, more) : Nat × List Bool × Bool) => ⟨46, [(1, .rp [.lst (N.map rowA), .lst (F.map V.bool)]), (3, .sl 1 0 n), (4, .bool more), (14, .lst (N.map rowA)), (15, .int .i64 n), (16, .int .i64 i)], [none, some (.row 1 (D.map V.bool))]⟩)
      (fun (i, D, more) => i ≤ n ∧ LInv N F n D0 D more i 0) (fun (i, _, _) => n - i) (0, D0, false) hE ?_ ?_ ⟨Nat.zero_le _, LInv.start hS0⟩ ?_
    · kernel_rfl
    · refine at_keep [1, 3, 4, 14, 15, 16] ?_
      conv => whnf
      rw [hNm, hNl]
      rfl
    rintro ⟨i, D, more⟩ ⟨hi, hI⟩
    by_cases hlt : i < n
    · obtain ⟨row, hrow⟩ : ∃ x, N[i]? = some x := ⟨_, List.getElem?_eq_getElem (by omega)⟩
      obtain ⟨h8, hxs⟩ := h.rows row (List.mem_of_getElem? hrow)
      obtain ⟨a0, a1, a2, a3, a4, a5, a6, a7, rfl⟩ := len8 h8
      have g1 := rowsA_at hrow
      conv => whnf
      repeat' (first | (refine brd_t (by first | assumption | omega) ?_; conv => whnf) | (refine brd_f (by first | assumption | omega) ?_; conv => whnf) | (refine ask (by first | assumption | omega) ?_; conv => whnf) | (refine fit64 (by omega) ?_; conv => whnf) | (refine fit (by simp only [kmin, kmax]; omega) ?_; conv => whnf) | (refine br_t (by assumption) ?_; conv => whnf) | (refine br_f (by assumption) ?_; conv => whnf) | (refine get_of (by assumption) ?_; conv => whnf) | (refine get_map (by assumption) ?_; conv => whnf) | (refine get_of g1 ?_; conv => whnf) | (refine draw_lex hE ?_ ?_; decide +kernel; conv => whnf) | (refine brd (fun h => ?_) (fun h => ?_) <;> conv => whnf) | (refine br (fun h => ?_) (fun h => ?_) <;> conv => whnf) | (refine ret_now hE ?_; conv => whnf) | (intro hlen; conv => whnf) | (refine seg_here ?_; conv => whnf) | (refine both ?_ ?_ <;> conv => whnf))
      refine loopE (fun ((c, D, more) : Nat × List Bool × Bool) => ⟨46, [(1, .rp [.lst (N.map rowA), .lst (F.map V.bool)]), (3, .sl 1 0 n), (4, .bool more), (5, .int .i64 i), (14, .lst (N.map rowA)), (15, .int .i64 n), (16, .int .i64 i), (21, rowA [a0, a1, a2, a3, a4, a5, a6, a7]), (22, .int .i64 c)], [none, some (.row 1 (D.map V.bool))]⟩)
        (fun (c, D, more) => c ≤ 8 ∧ LInv N F n D0 D more i c) (fun (c, _, _) => 8 - c) (0, D, more) hE ?_ ?_ ⟨Nat.zero_le _, hI⟩ ?_
      · kernel_rfl
      · refine at_drop [1, 3, 4, 5, 14, 15, 16, 21, 22] [0] ?_
        conv => whnf
        rw [kill_nrL _ (nr_bools D)]
        rfl
      clear hI
      rintro ⟨c, D, more⟩ ⟨hc, hI⟩
      have hDm : (D.map V.bool).length = D.length := by simp
      have hDl := hI.lsd.len
      by_cases hc8 : c < 8
      · obtain ⟨row', x, hrow', _, hxc, hx0, hxn, ex⟩ := h.get hlt hc8
        rw [hrow] at hrow'
        cases hrow'
        have hxt : x.toNat < n := by omega
        have g2 := bools_to (bt_get hDl hxt)
        have g3 := bools_at (bt_get hDl hlt)
        have hpass := fun hf => hI.pass (by rw [ex]; exact hf)
        have hput := fun hf hd => hI.put hnx hlt hc8 hf (by rw [ex]; exact hd) (c + 1)
        obtain ⟨bx, ebx⟩ : ∃ b, bt D x.toNat = b := ⟨_, rfl⟩
        obtain ⟨bi, ebi⟩ : ∃ b, bt D i = b := ⟨_, rfl⟩
        rw [ebx] at g2 hpass hput
        rw [ebi] at g3 hpass hput
        clear hI ex
        obtain rfl | rfl | rfl | rfl | rfl | rfl | rfl | rfl : c = 0 ∨ c = 1 ∨ c = 2 ∨ c = 3 ∨ c = 4 ∨ c = 5 ∨ c = 6 ∨ c = 7 := by omega
        all_goals simp only [List.getElem?_cons_zero, List.getElem?_cons_succ, Option.some.injEq] at hxc
        all_goals subst hxc
        all_goals cases bx
        all_goals cases bi
        all_goals
          conv => whnf
          repeat' (first | (refine brd_t (by first | assumption | omega) ?_; conv => whnf) | (refine brd_f (by first | assumption | omega) ?_; conv => whnf) | (refine ask (by first | assumption | omega) ?_; conv => whnf) | (refine fit64 (by omega) ?_; conv => whnf) | (refine fit (by simp only [kmin, kmax]; omega) ?_; conv => whnf) | (refine br_t (by assumption) ?_; conv => whnf) | (refine br_f (by assumption) ?_; conv => whnf) | (refine get_of (by assumption) ?_; conv => whnf) | (refine get_map (by assumption) ?_; conv => whnf) | (refine get_of g2 ?_; conv => whnf) | (refine get_of g3 ?_; conv => whnf) | (refine draw_lex hE ?_ ?_; decide +kernel; conv => whnf) | (refine brd (fun h => ?_) (fun h => ?_) <;> conv => whnf) | (refine br (fun h => ?_) (fun h => ?_) <;> conv => whnf) | (refine ret_now hE ?_; conv => whnf) | (intro hlen; conv => whnf) | (refine seg_here ?_; conv => whnf) | (refine both ?_ ?_ <;> conv => whnf))
          first
          | (refine next_keep [1, 3, 4, 5, 14, 15, 16, 21, 22] (_ + 1, D, more) ⟨?_, hpass (by first | exact .inl rfl | exact .inr rfl)⟩ ?_ ?_
             · omega
             · show 8 - _ < 8 - _; omega
             conv => whnf
             rfl)
          | (refine next_keep [1, 3, 4, 5, 14, 15, 16, 21, 22] (_ + 1, D.set i true, true) ⟨?_, hput rfl rfl⟩ ?_ ?_
             · omega
             · show 8 - _ < 8 - _; omega
             conv => whnf
             rw [Nat.zero_add, Int.toNat_natCast]
             show _ = (⟨46, _, [none, some (.row 1 ((D.set i true).map V.bool))]⟩ : ES)
             rw [List.map_set]
             rfl)
      · obtain rfl : c = 8 := by omega
        conv => whnf
        repeat' (first | (refine brd_t (by first | assumption | omega) ?_; conv => whnf) | (refine brd_f (by first | assumption | omega) ?_; conv => whnf) | (refine ask (by first | assumption | omega) ?_; conv => whnf) | (refine fit64 (by omega) ?_; conv => whnf) | (refine fit (by simp only [kmin, kmax]; omega) ?_; conv => whnf) | (refine br_t (by assumption) ?_; conv => whnf) | (refine br_f (by assumption) ?_; conv => whnf) | (refine get_of (by assumption) ?_; conv => whnf) | (refine get_map (by assumption) ?_; conv => whnf) | (refine draw_lex hE ?_ ?_; decide +kernel; conv => whnf) | (refine brd (fun h => ?_) (fun h => ?_) <;> conv => whnf) | (refine br (fun h => ?_) (fun h => ?_) <;> conv => whnf) | (refine ret_now hE ?_; conv => whnf) | (intro hlen; conv => whnf) | (refine seg_here ?_; conv => whnf) | (refine both ?_ ?_ <;> conv => whnf))
        refine next_keep [1, 3, 4, 14, 15, 16] (i + 1, D, more) ⟨hlt, hI.row (by omega)⟩ (by show n - (i + 1) < n - i; omega) ?_
        conv => whnf
        rfl
    · conv => whnf
      repeat' (first | (refine brd_t (by first | assumption | omega) ?_; conv => whnf) | (refine brd_f (by first | assumption | omega) ?_; conv => whnf) | (refine ask (by first | assumption | omega) ?_; conv => whnf) | (refine fit64 (by omega) ?_; conv => whnf) | (refine fit (by simp only [kmin, kmax]; omega) ?_; conv => whnf) | (refine br_t (by assumption) ?_; conv => whnf) | (refine br_f (by assumption) ?_; conv => whnf) | (refine get_of (by assumption) ?_; conv => whnf) | (refine get_map (by assumption) ?_; conv => whnf) | (refine draw_lex hE ?_ ?_; decide +kernel; conv => whnf) | (refine brd (fun h => ?_) (fun h => ?_) <;> conv => whnf) | (refine br (fun h => ?_) (fun h => ?_) <;> conv => whnf) | (refine ret_now hE ?_; conv => whnf) | (intro hlen; conv => whnf) | (refine seg_here ?_; conv => whnf) | (refine both ?_ ?_ <;> conv => whnf))
      refine next_keep [1, 3, 4] (D, more) ⟨hI.lsd, fun e => by subst e; exact hI.done (by omega) hnx⟩ ?_ ?_
      · show 2 * cn1 D + more.toNat < 2 * cn1 D0 + 1
        rcases hI.so with ⟨rfl, rfl, _⟩ | ⟨rfl, h⟩
        · simp
        · simp; omega
      conv => whnf
end Go.Proofs.YtmjglpdfkkmcoaaDoor
