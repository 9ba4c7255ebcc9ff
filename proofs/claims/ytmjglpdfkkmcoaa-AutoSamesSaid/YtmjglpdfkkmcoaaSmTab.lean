/- The table of the states that are told apart: the plain law of its filling. No conditions. -/
import Derived.Test.YtmjglpdfkkmcoaaSmLaw
set_option linter.unusedSimpArgs false
set_option linter.unusedVariables false
set_option maxRecDepth 100000
namespace Go.Proofs.Ytmjglpdfkkmcoaa

def at2 (D : List (List Bool)) (i k : Nat) : Bool := ((D[i]?.getD [])[k]?).getD false
def nxT (T : List (List Int)) (i c : Nat) : Nat := (((T[i]?.getD [])[c]?).getD 0).toNat
def fnF (F : List Bool) (i : Nat) : Bool := (F[i]?).getD false
structure Sq (n : Nat) (D : List (List Bool)) : Prop where
  len : D.length = n
  row : ∀ r ∈ D, r.length = n
def set2 (D : List (List Bool)) (i k : Nat) : List (List Bool) := D.set i ((D[i]?.getD []).set k true)
def cnt (D : List (List Bool)) : Nat := (D.map fun r => r.countP fun b => !b).sum
theorem Sq.get {n : Nat} {D : List (List Bool)} (h : Sq n D) {i : Nat} (hi : i < n) : ∃ r, D[i]? = some r ∧ r.length = n := by
  obtain ⟨r, hr⟩ : ∃ r, D[i]? = some r := ⟨_, List.getElem?_eq_getElem (by rw [h.len]; exact hi)⟩
  exact ⟨r, hr, h.row r (List.mem_of_getElem? hr)⟩
theorem Sq.get2 {n : Nat} {D : List (List Bool)} (h : Sq n D) {i k : Nat} (hi : i < n) (hk : k < n) : ∃ r, D[i]? = some r ∧ r.length = n ∧ r[k]? = some (at2 D i k) := by
  obtain ⟨r, hr, hl⟩ := h.get hi
  obtain ⟨b, hb⟩ : ∃ b, r[k]? = some b := ⟨_, List.getElem?_eq_getElem (by rw [hl]; exact hk)⟩
  exact ⟨r, hr, hl, by simp [at2, hr, hb]⟩
theorem sq_set2 {n : Nat} {D : List (List Bool)} (h : Sq n D) {i k : Nat} (hi : i < n) : Sq n (set2 D i k) := by
  obtain ⟨r, hr, hl⟩ := h.get hi
  refine ⟨by simp [set2, h.len], fun q hq => ?_⟩
  unfold set2 at hq
  rw [hr] at hq
  rcases List.mem_or_eq_of_mem_set hq with hq | rfl
  · exact h.row q hq
  · simp [hl]
theorem at2_set2 {n : Nat} {D : List (List Bool)} (h : Sq n D) {i k : Nat} (hi : i < n) (hk : k < n) (i' k' : Nat) : at2 (set2 D i k) i' k' = if i' = i ∧ k' = k then true else at2 D i' k' := by
  obtain ⟨r, hr, hl⟩ := h.get hi
  unfold at2 set2
  rw [hr, List.getElem?_set]
  by_cases e : i = i'
  · subst e
    simp only [if_true, if_pos (show i < D.length by rw [h.len]; exact hi), Option.getD_some, true_and, hr]
    rw [List.getElem?_set]
    by_cases e2 : k = k'
    · subst e2
      simp [hl, hk]
    · rw [if_neg e2, if_neg (Ne.symm e2)]
  · rw [if_neg e, if_neg (fun c => e c.1.symm)]
theorem sum_set (l : List Nat) (i x y : Nat) (h : l[i]? = some y) : (l.set i x).sum + y = l.sum + x := by
  induction l generalizing i with
  | nil => simp at h
  | cons a l ih =>
    cases i with
    | zero => simp at h; subst h; simp; omega
    | succ i => simp at h ⊢; have := ih i h; omega
theorem count_set (r : List Bool) (k : Nat) (h : r[k]? = some false) : ((r.set k true).countP fun b => !b) + 1 = r.countP fun b => !b := by
  induction r generalizing k with
  | nil => simp at h
  | cons a r ih =>
    cases k with
    | zero => simp at h; subst h; simp
    | succ k => simp at h; have := ih k h; simp [List.countP_cons]; omega
theorem cnt_set2 {n : Nat} {D : List (List Bool)} (h : Sq n D) {i k : Nat} (hi : i < n) (hk : k < n) (hf : at2 D i k = false) : cnt (set2 D i k) < cnt D := by
  obtain ⟨r, hr, hl, hb⟩ := h.get2 hi hk
  rw [hf] at hb
  have h1 := count_set r k hb
  have h2 := sum_set (D.map fun r => r.countP fun b => !b) i ((r.set k true).countP fun b => !b) (r.countP fun b => !b) (by rw [List.getElem?_map, hr]; rfl)
  unfold cnt set2
  rw [hr, List.map_set]
  simp only [Option.getD_some]
  omega
/-- What the table is, at any time: nothing is told apart wrongly; ends and others are. -/
structure Snd (T : List (List Int)) (F : List Bool) (n : Nat) (D : List (List Bool)) : Prop where
  sq : Sq n D
  sound : ∀ i k, i < n → k < n → at2 D i k = true → ∃ w, wordOk w ∧ fnF F (w.foldl (nxT T) i) ≠ fnF F (w.foldl (nxT T) k)
  base : ∀ i k, i < n → k < n → fnF F i ≠ fnF F k → at2 D i k = true
theorem snd_set2 {T : List (List Int)} {F : List Bool} {n : Nat} {D : List (List Bool)} (h : Snd T F n D) (hnx : ∀ i c, i < n → c < 8 → nxT T i c < n) {i k c : Nat} (hi : i < n) (hk : k < n) (hc : c < 8) (hd : at2 D (nxT T i c) (nxT T k c) = true) : Snd T F n (set2 D i k) where
  sq := sq_set2 h.sq hi
  sound := fun i' k' hi' hk' e => by
    rw [at2_set2 h.sq hi hk] at e
    split at e
    · rename_i hh
      obtain ⟨rfl, rfl⟩ := hh
      obtain ⟨w, hw, hne⟩ := h.sound _ _ (hnx i' c hi hc) (hnx k' c hk hc) hd
      exact ⟨c :: w, fun d hd => by rcases List.mem_cons.1 hd with rfl | hd; exact hc; exact hw d hd, hne⟩
    · exact h.sound i' k' hi' hk' e
  base := fun i' k' hi' hk' e => by
    rw [at2_set2 h.sq hi hk]
    split
    · rfl
    · exact h.base i' k' hi' hk' e
/-- In a round over the table D0: so far. -/
structure RInv (T : List (List Int)) (F : List Bool) (n : Nat) (D0 D : List (List Bool)) (more : Bool) (i k c : Nat) : Prop where
  snd : Snd T F n D
  so : (more = false ∧ D = D0 ∧ ∀ i' k' c', i' < n → k' < n → c' < 8 → (i' < i ∨ (i' = i ∧ (k' < k ∨ (k' = k ∧ c' < c)))) → at2 D (nxT T i' c') (nxT T k' c') = true → at2 D i' k' = true) ∨ (more = true ∧ cnt D < cnt D0)
section
variable {T : List (List Int)} {F : List Bool} {n : Nat} {D0 D : List (List Bool)} {more : Bool} {i k c : Nat}
theorem RInv.start (h : Snd T F n D) : RInv T F n D D false 0 0 0 := ⟨h, .inl ⟨rfl, rfl, fun i' k' c' _ _ _ h => by omega⟩⟩
theorem RInv.pass (h : RInv T F n D0 D more i k c) (hf : at2 D (nxT T i c) (nxT T k c) = false) : RInv T F n D0 D more i k (c + 1) := ⟨h.snd, h.so.imp (fun ⟨h1, h2, h3⟩ => ⟨h1, h2, fun i' k' c' a b d e f => by
  by_cases hh : i' = i ∧ k' = k ∧ c' = c
  · obtain ⟨rfl, rfl, rfl⟩ := hh
    rw [hf] at f
    cases f
  · exact h3 i' k' c' a b d (by omega) f⟩) id⟩
theorem RInv.full (h : RInv T F n D0 D more i k c) (hc : 8 ≤ c) : RInv T F n D0 D more i (k + 1) 0 := ⟨h.snd, h.so.imp (fun ⟨h1, h2, h3⟩ => ⟨h1, h2, fun i' k' c' a b d e f => h3 i' k' c' a b d (by omega) f⟩) id⟩
theorem RInv.told (h : RInv T F n D0 D more i k c) (ht : at2 D i k = true) : RInv T F n D0 D more i (k + 1) 0 := ⟨h.snd, h.so.imp (fun ⟨h1, h2, h3⟩ => ⟨h1, h2, fun i' k' c' a b d e f => by
  by_cases hh : i' = i ∧ k' = k
  · obtain ⟨rfl, rfl⟩ := hh
    exact ht
  · exact h3 i' k' c' a b d (by omega) f⟩) id⟩
theorem RInv.row (h : RInv T F n D0 D more i k 0) (hk : n ≤ k) : RInv T F n D0 D more (i + 1) 0 0 := ⟨h.snd, h.so.imp (fun ⟨h1, h2, h3⟩ => ⟨h1, h2, fun i' k' c' a b d e f => h3 i' k' c' a b d (by omega) f⟩) id⟩
theorem RInv.put (h : RInv T F n D0 D more i k c) (hnx : ∀ i c, i < n → c < 8 → nxT T i c < n) (hi : i < n) (hk : k < n) (hc : c < 8) (hf : at2 D i k = false) (hd : at2 D (nxT T i c) (nxT T k c) = true) (c' : Nat) : RInv T F n D0 (set2 D i k) true i k c' :=
  ⟨snd_set2 h.snd hnx hi hk hc hd, .inr ⟨rfl, by
    have h1 := cnt_set2 h.snd.sq hi hk hf
    rcases h.so with ⟨_, rfl, _⟩ | ⟨_, h2⟩
    · exact h1
    · omega⟩⟩
theorem RInv.done (h : RInv T F n D0 D false i 0 0) (hi : n ≤ i) : Tab (nxT T) (fnF F) n (at2 D) := by
  rcases h.so with ⟨_, _, h3⟩ | ⟨h1, _⟩
  · exact ⟨h.snd.sound, h.snd.base, fun i' k' c' a b d f => h3 i' k' c' a b d (by omega) f⟩
  · cases h1
end
end Go.Proofs.Ytmjglpdfkkmcoaa
