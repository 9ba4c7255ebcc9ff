/- The least word of a machine, found by search and by distances: plain lists. No conditions. -/
import Derived.Test.YtaapdbcbefnhgaaMay
set_option linter.unusedSimpArgs false
set_option linter.unusedVariables false
set_option maxRecDepth 100000
namespace Go.Proofs.Ytaapdbcbefnhgaa
/-! ### Words of a machine -/
def stp (T : List (List Int)) (s n : Nat) : Option Nat := match T[s]? with
  | some row => match row[n]? with
    | some x => if 0 ≤ x then some x.toNat else none
    | none => none
  | none => none
def runW (T : List (List Int)) : Nat → List Nat → Option Nat
  | s, [] => some s
  | s, n :: w => match stp T s n with
    | some t => runW T t w
    | none => none
def Acc (T : List (List Int)) (F : List Bool) (s : Nat) (w : List Nat) : Prop := ∃ t, runW T s w = some t ∧ F[t]? = some true
theorem run_app (T : List (List Int)) : ∀ (w v : List Nat) (s t : Nat), runW T s w = some t → runW T s (w ++ v) = runW T t v
  | [], v, s, t, h => by simp [runW] at h; subst h; rfl
  | n :: w, v, s, t, h => by
    simp only [runW, List.cons_append] at h ⊢
    cases hs : stp T s n with
    | none => rw [hs] at h; cases h
    | some u => rw [hs] at h; exact run_app T w v u t h
theorem run_split (T : List (List Int)) : ∀ (w v : List Nat) (s t : Nat), runW T s (w ++ v) = some t → ∃ u, runW T s w = some u ∧ runW T u v = some t
  | [], v, s, t, h => ⟨s, rfl, h⟩
  | n :: w, v, s, t, h => by
    simp only [runW, List.cons_append] at h ⊢
    cases hs : stp T s n with
    | none => rw [hs] at h; cases h
    | some u => rw [hs] at h; exact run_split T w v u t h
theorem run_one {T : List (List Int)} {s n : Nat} : runW T s [n] = stp T s n := by
  simp only [runW]; cases stp T s n <;> rfl
/-- The states of a machine lead to states. -/
structure Mach (T : List (List Int)) (F : List Bool) : Prop where
  pos : 0 < T.length
  len : F.length = T.length
  row : ∀ r ∈ T, r.length = 8 ∧ ∀ x ∈ r, -1 ≤ x ∧ x < T.length
section
variable {T : List (List Int)} {F : List Bool}
theorem stp_lt (hM : Mach T F) {s n t : Nat} (h : stp T s n = some t) : t < T.length ∧ n < 8 ∧ s < T.length := by
  unfold stp at h
  cases hr : T[s]? with
  | none => rw [hr] at h; cases h
  | some row =>
    rw [hr] at h
    simp only at h
    cases hx : row[n]? with
    | none => rw [hx] at h; cases h
    | some x =>
      rw [hx] at h
      simp only at h
      split at h
      · rename_i h0
        have hm := hM.row row (List.mem_of_getElem? hr)
        have := hm.2 x (List.mem_of_getElem? hx)
        have h8 := (List.getElem?_eq_some_iff.1 hx).1
        have hs := (List.getElem?_eq_some_iff.1 hr).1
        cases h
        omega
      · cases h
theorem stp_of {s n : Nat} {row : List Int} {x : Int} (hr : T[s]? = some row) (hx : row[n]? = some x) : stp T s n = if 0 ≤ x then some x.toNat else none := by
  unfold stp; rw [hr]; simp only [hx]
theorem run_lt (hM : Mach T F) : ∀ (w : List Nat) (s t : Nat), s < T.length → runW T s w = some t → t < T.length
  | [], s, t, hs, h => by simp [runW] at h; omega
  | n :: w, s, t, hs, h => by
    simp only [runW] at h
    cases hq : stp T s n with
    | none => rw [hq] at h; cases h
    | some u => rw [hq] at h; exact run_lt hM w u t (stp_lt hM hq).1 h

/-! ### The order: shorter first, then letter by letter -/
def lexlt (w v : List Nat) : Prop := ∃ k a b : Nat, (∀ j < k, w[j]? = v[j]?) ∧ w[k]? = some a ∧ v[k]? = some b ∧ a < b
def sle (w v : List Nat) : Prop := w.length < v.length ∨ (w.length = v.length ∧ (w = v ∨ lexlt w v))
theorem lexlt_asymm {w v : List Nat} (h1 : lexlt w v) (h2 : lexlt v w) : False := by
  obtain ⟨k, a, b, h, ha, hb, hab⟩ := h1
  obtain ⟨k', a', b', h', ha', hb', hab'⟩ := h2
  rcases Nat.lt_trichotomy k k' with hk | hk | hk
  · have := h' k hk; rw [ha, hb] at this; cases this; omega
  · subst hk; rw [ha] at hb'; rw [hb] at ha'; cases ha'; cases hb'; omega
  · have := h k' hk; rw [ha', hb'] at this; cases this; omega
theorem sle_antisymm {w v : List Nat} (h1 : sle w v) (h2 : sle v w) : w = v := by
  rcases h1 with h1 | ⟨e1, h1⟩
  · rcases h2 with h2 | ⟨e2, _⟩ <;> omega
  · rcases h2 with h2 | ⟨_, h2⟩
    · omega
    · rcases h1 with h1 | h1
      · exact h1
      · rcases h2 with h2 | h2
        · exact h2.symm
        · exact (lexlt_asymm h1 h2).elim
theorem lexlt_trans {w v u : List Nat} (h1 : lexlt w v) (h2 : lexlt v u) : lexlt w u := by
  obtain ⟨k, a, b, h, ha, hb, hab⟩ := h1
  obtain ⟨k', a', b', h', ha', hb', hab'⟩ := h2
  rcases Nat.lt_trichotomy k k' with hk | hk | hk
  · exact ⟨k, a, b, fun j hj => (h j hj).trans (h' j (by omega)), ha, (h' k hk) ▸ hb, hab⟩
  · subst hk; rw [hb] at ha'; cases ha'; exact ⟨k, a, b', fun j hj => (h j hj).trans (h' j hj), ha, hb', by omega⟩
  · exact ⟨k', a', b', fun j hj => (h j (by omega)).trans (h' j hj), (h k' hk).trans ha', hb', hab'⟩
theorem sle_trans {w v u : List Nat} (h1 : sle w v) (h2 : sle v u) : sle w u := by
  rcases h1 with h1 | ⟨e1, h1⟩
  · rcases h2 with h2 | ⟨e2, _⟩
    · exact .inl (by omega)
    · exact .inl (by omega)
  · rcases h2 with h2 | ⟨e2, h2⟩
    · exact .inl (by omega)
    · refine .inr ⟨by omega, ?_⟩
      rcases h1 with rfl | h1
      · exact h2
      · rcases h2 with rfl | h2
        · exact .inr h1
        · exact .inr (lexlt_trans h1 h2)
theorem sle_refl (w : List Nat) : sle w w := .inr ⟨rfl, .inl rfl⟩
theorem sle_nil (w : List Nat) : sle [] w := by
  cases w with
  | nil => exact sle_refl _
  | cons a w => exact .inl (by simp)
/-- A letter behind. -/
theorem sle_snoc {w v : List Nat} {n : Nat} (h : sle w v) : sle (w ++ [n]) (v ++ [n]) := by
  rcases h with h | ⟨e, h⟩
  · exact .inl (by simp; omega)
  · refine .inr ⟨by simp; omega, ?_⟩
    rcases h with rfl | ⟨k, a, b, h, ha, hb, hab⟩
    · exact .inl rfl
    · have h1 := (List.getElem?_eq_some_iff.1 ha).1
      have h2 := (List.getElem?_eq_some_iff.1 hb).1
      exact .inr ⟨k, a, b, fun j hj => by rw [List.getElem?_append_left (by omega), List.getElem?_append_left (by omega)]; exact h j hj, by rw [List.getElem?_append_left h1]; exact ha, by rw [List.getElem?_append_left h2]; exact hb, hab⟩
theorem lexlt_app {w v w' v' : List Nat} (h : lexlt w v) : lexlt (w ++ w') (v ++ v') := by
  obtain ⟨k, a, b, h, ha, hb, hab⟩ := h
  have h1 := (List.getElem?_eq_some_iff.1 ha).1
  have h2 := (List.getElem?_eq_some_iff.1 hb).1
  exact ⟨k, a, b, fun j hj => by rw [List.getElem?_append_left (by omega), List.getElem?_append_left (by omega)]; exact h j hj, by rw [List.getElem?_append_left h1]; exact ha, by rw [List.getElem?_append_left h2]; exact hb, hab⟩
theorem lexlt_last (w : List Nat) {a b : Nat} (h : a < b) : lexlt (w ++ [a]) (w ++ [b]) :=
  ⟨w.length, a, b, fun j hj => by rw [List.getElem?_append_left hj, List.getElem?_append_left hj], by simp, by simp, h⟩
/-- The least word that is meant. -/
def Least (T : List (List Int)) (F : List Bool) (w : List Nat) : Prop := Acc T F 0 w ∧ ∀ v, Acc T F 0 v → sle w v
theorem least_one {w v : List Nat} (h1 : Least T F w) (h2 : Least T F v) : w = v := sle_antisymm (h1.2 v h2.1) (h2.2 w h1.1)

/-! ### How far an end is -/
def Snd (T : List (List Int)) (F : List Bool) (A : List Int) : Prop := ∀ i k, A[i]? = some k → 0 ≤ k ∧ k ≤ 1000 ∧ (k < 1000 → ∃ w, Acc T F i w ∧ (w.length : Int) = k)
def Cmp (T : List (List Int)) (F : List Bool) (A : List Int) (r : Nat) (i : Nat) : Prop := ∀ w, Acc T F i w → w.length ≤ r → ∀ k, A[i]? = some k → k ≤ w.length
theorem nodup_bound {n : Nat} : ∀ (l : List Nat), l.Nodup → (∀ x ∈ l, x < n) → l.length ≤ n := by
  induction n with
  | zero =>
    intro l _ h
    cases l with
    | nil => simp
    | cons x l => have := h x (by simp); omega
  | succ n ih =>
    intro l hn h
    by_cases hm : n ∈ l
    · have h1 := ih (l.erase n) (hn.erase n) (fun x hx => by
        have := h x (List.mem_of_mem_erase hx)
        have : x ≠ n := fun e => by subst e; exact (List.Nodup.not_mem_erase hn) hx
        omega)
      rw [List.length_erase_of_mem hm] at h1
      omega
    · have := ih l hn (fun x hx => by
        have := h x hx
        have : x ≠ n := fun e => hm (e ▸ hx)
        omega)
      omega
/-- The states that a word passes. -/
def trace (T : List (List Int)) (s : Nat) (w : List Nat) : List Nat := (List.range (w.length + 1)).map fun k => (runW T s (w.take k)).getD 0
theorem not_nodup {l : List Nat} (h : ¬ l.Nodup) : ∃ i j x : Nat, i < j ∧ l[i]? = some x ∧ l[j]? = some x := by
  refine Classical.byContradiction fun hno => h ?_
  unfold List.Nodup
  rw [List.pairwise_iff_getElem]
  intro i j hi hj hij he
  exact hno ⟨i, j, l[i], hij, List.getElem?_eq_getElem hi, by rw [List.getElem?_eq_getElem hj, he]⟩
theorem acc_short (hM : Mach T F) : ∀ (N : Nat) (w : List Nat) (s : Nat), w.length ≤ N → s < T.length → Acc T F s w → ∃ v, Acc T F s v ∧ v.length ≤ w.length ∧ v.length < T.length := by
  intro N
  induction N using Nat.strongRecOn with
  | _ N ih =>
    intro w s hw hs ha
    by_cases hl : w.length < T.length
    · exact ⟨w, ha, Nat.le_refl _, hl⟩
    · obtain ⟨t, hr, hf⟩ := ha
      have hpre : ∀ k, ∃ u, runW T s (w.take k) = some u ∧ runW T u (w.drop k) = some t := fun k => run_split T _ _ s t (by rw [List.take_append_drop]; exact hr)
      have hnd : ¬ (trace T s w).Nodup := fun hn => by
        have := nodup_bound (n := T.length) _ hn (fun x hx => by
          unfold trace at hx
          obtain ⟨k, _, rfl⟩ := List.mem_map.1 hx
          obtain ⟨u, hu, _⟩ := hpre k
          rw [hu]
          exact run_lt hM _ _ _ hs hu)
        simp [trace] at this
        omega
      obtain ⟨i, j, x, hij, hi, hj⟩ := not_nodup hnd
      have hlen : (trace T s w).length = w.length + 1 := by simp [trace]
      have hil := (List.getElem?_eq_some_iff.1 hi).1
      have hjl := (List.getElem?_eq_some_iff.1 hj).1
      rw [hlen] at hil hjl
      have hat : ∀ k, k < w.length + 1 → (trace T s w)[k]? = some ((runW T s (w.take k)).getD 0) := fun k hk => by
        unfold trace
        rw [List.getElem?_map, List.getElem?_range hk]; rfl
      rw [hat i hil] at hi
      rw [hat j hjl] at hj
      obtain ⟨u, hu, hu2⟩ := hpre i
      obtain ⟨v, hv, hv2⟩ := hpre j
      rw [hu] at hi
      rw [hv] at hj
      simp at hi hj
      subst hi
      subst hj
      have hacc : Acc T F s (w.take i ++ w.drop j) := ⟨t, by rw [run_app T _ _ _ _ hu]; exact hv2, hf⟩
      have hlt : (w.take i ++ w.drop j).length < w.length := by simp; omega
      obtain ⟨v', h1, h2, h3⟩ := ih _ (by omega) (w.take i ++ w.drop j) s (Nat.le_refl _) hs hacc
      exact ⟨v', h1, by omega, h3⟩
theorem cmp_all (hM : Mach T F) {A : List Int} {i : Nat} (hi : i < T.length) (h : Cmp T F A T.length i) : ∀ w, Acc T F i w → ∀ k, A[i]? = some k → k ≤ w.length := by
  intro w ha k hk
  obtain ⟨v, h1, h2, h3⟩ := acc_short hM w.length w i (Nat.le_refl _) hi ha
  have := h v h1 (by omega) k hk
  omega
theorem acc_cons {s n t : Nat} {w : List Nat} (hs : stp T s n = some t) (h : Acc T F t w) : Acc T F s (n :: w) := by
  obtain ⟨u, h1, h2⟩ := h
  exact ⟨u, by simp only [runW, hs]; exact h1, h2⟩
theorem acc_uncons {s n : Nat} {w : List Nat} (h : Acc T F s (n :: w)) : ∃ t, stp T s n = some t ∧ Acc T F t w := by
  obtain ⟨u, h1, h2⟩ := h
  simp only [runW] at h1
  cases hs : stp T s n with
  | none => rw [hs] at h1; cases h1
  | some t => rw [hs] at h1; exact ⟨t, rfl, u, h1, h2⟩
theorem acc_nil {s : Nat} : Acc T F s [] ↔ F[s]? = some true := by
  constructor
  · rintro ⟨t, h1, h2⟩
    simp [runW] at h1
    subst h1; exact h2
  · intro h; exact ⟨s, rfl, h⟩
/-- The start: ends are 0 away, the others far. -/
def away0 (F : List Bool) : List Int := F.map fun b => if b then 0 else 1000
theorem away0_at (i : Nat) (b : Bool) (h : F[i]? = some b) : (away0 F)[i]? = some (if b then 0 else 1000) := by unfold away0; rw [List.getElem?_map, h]; rfl
theorem snd0 : Snd T F (away0 F) := by
  intro i k hk
  unfold away0 at hk
  rw [List.getElem?_map] at hk
  cases hb : F[i]? with
  | none => rw [hb] at hk; cases hk
  | some b =>
    rw [hb] at hk
    cases b with
    | true => simp at hk; subst hk; exact ⟨by decide, by decide, fun _ => ⟨[], acc_nil.2 hb, rfl⟩⟩
    | false => simp at hk; subst hk; exact ⟨by decide, by decide, fun h => by omega⟩
theorem cmp0 (i : Nat) : Cmp T F (away0 F) 0 i := by
  intro w ha hw k hk
  have : w = [] := List.eq_nil_of_length_eq_zero (by omega)
  subst this
  rw [away0_at i true (acc_nil.1 ha)] at hk
  simp at hk
  simp; omega
/-- One letter's step: A with place i lowered. -/
theorem snd_step {A : List Int} (hA : Snd T F A) {i n t : Nat} {a b : Int} (hs : stp T i n = some t) (ha : A[i]? = some a) (hb : A[t]? = some b) : Snd T F (A.set i (min a (b + 1))) := by
  intro j k hk
  by_cases hj : j = i
  · subst hj
    rw [List.getElem?_set_self (List.getElem?_eq_some_iff.1 ha).1] at hk
    simp at hk
    have a1 := (hA j a ha).1
    have a2 := (hA j a ha).2.1
    have b1 := (hA t b hb).1
    have b2 := (hA t b hb).2.1
    refine ⟨by omega, by omega, fun hk2 => ?_⟩
    by_cases hab : a ≤ b + 1
    · have : k = a := by omega
      subst this
      exact (hA j k ha).2.2 hk2
    · have : k = b + 1 := by omega
      subst this
      obtain ⟨w, h3, h4⟩ := (hA t b hb).2.2 (by omega)
      exact ⟨n :: w, acc_cons hs h3, by simp; omega⟩
  · rw [List.getElem?_set_ne (Ne.symm hj)] at hk
    exact hA j k hk
/-- Within a row: words that begin with the letters that are done. -/
def CmpR (T : List (List Int)) (F : List Bool) (A : List Int) (r i j : Nat) : Prop := ∀ n w, n < j → Acc T F i (n :: w) → w.length ≤ r → ∀ k, A[i]? = some k → k ≤ w.length + 1
theorem cmp_lower {A B : List Int} {r i : Nat} (hl : ∀ (k : Nat) (b : Int), B[k]? = some b → ∃ a, A[k]? = some a ∧ b ≤ a) (h : Cmp T F A r i) : Cmp T F B r i := by
  intro w ha hw k hk
  obtain ⟨a, h1, h2⟩ := hl i k hk
  have := h w ha hw a h1
  omega
theorem cmpR_lower {A B : List Int} {r i j : Nat} (hl : ∀ (k : Nat) (b : Int), B[k]? = some b → ∃ a, A[k]? = some a ∧ b ≤ a) (h : CmpR T F A r i j) : CmpR T F B r i j := by
  intro n w hn ha hw k hk
  obtain ⟨a, h1, h2⟩ := hl i k hk
  have := h n w hn ha hw a h1
  omega
theorem set_lower {A : List Int} {i : Nat} {a b : Int} (ha : A[i]? = some a) (hb : b ≤ a) : ∀ (k : Nat) (c : Int), (A.set i b)[k]? = some c → ∃ a, A[k]? = some a ∧ c ≤ a := by
  intro k c hc
  by_cases hk : k = i
  · subst hk
    rw [List.getElem?_set_self (List.getElem?_eq_some_iff.1 ha).1] at hc
    simp at hc
    exact ⟨a, ha, by omega⟩
  · rw [List.getElem?_set_ne (Ne.symm hk)] at hc
    exact ⟨c, hc, by omega⟩
theorem cmpR_step {A : List Int} {r i j t : Nat} {a b : Int} (h : CmpR T F A r i j) (hs : stp T i j = some t) (ht : Cmp T F A r t) (ha : A[i]? = some a) (hb : A[t]? = some b) : CmpR T F (A.set i (min a (b + 1))) r i (j + 1) := by
  intro n w hn hacc hw k hk
  rw [List.getElem?_set_self (List.getElem?_eq_some_iff.1 ha).1] at hk
  simp at hk
  by_cases hnj : n = j
  · subst hnj
    obtain ⟨t', h1, h2⟩ := acc_uncons hacc
    rw [hs] at h1
    cases h1
    have := ht w h2 hw b hb
    omega
  · have := h n w (by omega) hacc hw a ha
    omega
theorem cmpR_none {A : List Int} {r i j : Nat} (h : CmpR T F A r i j) (hs : stp T i j = none) : CmpR T F A r i (j + 1) := by
  intro n w hn hacc hw k hk
  by_cases hnj : n = j
  · subst hnj
    obtain ⟨t', h1, h2⟩ := acc_uncons hacc
    rw [hs] at h1
    cases h1
  · exact h n w (by omega) hacc hw k hk
theorem cmp_of_row (hM : Mach T F) {A : List Int} {r i : Nat} (h0 : Cmp T F A r i) (h : CmpR T F A r i 8) : Cmp T F A (r + 1) i := by
  intro w ha hw k hk
  cases w with
  | nil => exact h0 [] ha (by simp) k hk
  | cons n w =>
    obtain ⟨t, h1, _⟩ := acc_uncons ha
    have := h n w (stp_lt hM h1).2.1 ha (by simpa using hw) k hk
    simp; omega

/-! ### Always the least letter that leads nearer -/
structure Dist (T : List (List Int)) (F : List Bool) (A : List Int) : Prop where
  len : A.length = T.length
  snd : Snd T F A
  cmp : ∀ i w, Acc T F i w → ∀ k, A[i]? = some k → k ≤ w.length
/-- What is known on the way. -/
def Way (T : List (List Int)) (F : List Bool) (d : Int) (A : List Int) (out : List Nat) (at' : Nat) : Prop :=
  runW T 0 out = some at' ∧ (∃ k, A[at']? = some k ∧ (out.length : Int) + k = d) ∧ ∀ v, Acc T F 0 v → (v.length : Int) = d → lexlt out v ∨ ∃ v', v = out ++ v' ∧ Acc T F at' v'
theorem way0 {A : List Int} {d : Int} (h : A[0]? = some d) : Way T F d A [] 0 := ⟨rfl, ⟨d, h, by simp⟩, fun v ha _ => .inr ⟨v, rfl, ha⟩⟩
theorem near {A : List Int} (hM : Mach T F) (hA : Dist T F A) {s : Nat} {k : Int} (hk : A[s]? = some k) (h0 : 0 < k) (h1 : k < 1000) : ∃ n t, stp T s n = some t ∧ A[t]? = some (k - 1) := by
  obtain ⟨w, ha, hw⟩ := (hA.snd s k hk).2.2 h1
  cases w with
  | nil => simp at hw; omega
  | cons n w =>
    obtain ⟨t, h2, h3⟩ := acc_uncons ha
    have htl : t < A.length := by rw [hA.len]; exact (stp_lt hM h2).1
    have hb : A[t]? = some A[t] := List.getElem?_eq_getElem htl
    have c1 := hA.cmp t w h3 _ hb
    simp at hw
    have hlt : A[t] < 1000 := by omega
    obtain ⟨v, h4, h5⟩ := (hA.snd t _ hb).2.2 hlt
    have c2 := hA.cmp s (n :: v) (acc_cons h2 h4) k hk
    simp at c2
    exact ⟨n, t, h2, by rw [hb]; congr 1; omega⟩
theorem way_step {A : List Int} (hA : Dist T F A) {d : Int} {out : List Nat} {s n t : Nat} {k : Int} (hW : Way T F d A out s) (hk : A[s]? = some k) (hs : stp T s n = some t) (ht : A[t]? = some (k - 1))
    (hmin : ∀ m < n, ∀ u, stp T s m = some u → A[u]? ≠ some (k - 1)) (hM : Mach T F) : Way T F d A (out ++ [n]) t := by
  obtain ⟨h1, ⟨k', hk', hd⟩, h3⟩ := hW
  rw [hk] at hk'
  cases hk'
  refine ⟨by rw [run_app T _ _ _ _ h1, run_one]; exact hs, ⟨k - 1, ht, by simp; omega⟩, fun v hv hvd => ?_⟩
  rcases h3 v hv hvd with h | ⟨v', rfl, hv'⟩
  · obtain ⟨i, a, b, h4, ha, hb, hab⟩ := h
    have hil := (List.getElem?_eq_some_iff.1 ha).1
    exact .inl ⟨i, a, b, fun j hj => by rw [List.getElem?_append_left (by omega)]; exact h4 j hj, by rw [List.getElem?_append_left hil]; exact ha, hb, hab⟩
  · cases v' with
    | nil =>
      have h0 := hA.cmp s [] hv' k hk
      have h00 := (hA.snd t (k - 1) ht).1
      simp at h0
      omega
    | cons m v' =>
      obtain ⟨u, hu, hv2⟩ := acc_uncons hv'
      have hul : u < A.length := by rw [hA.len]; exact (stp_lt hM hu).1
      have hau : A[u]? = some A[u] := List.getElem?_eq_getElem hul
      have c1 := hA.cmp u v' hv2 _ hau
      have hvl : (v'.length : Int) = k - 1 := by simp at hvd; omega
      have c2 : A[u] = k - 1 := by
        have hk1 := (hA.snd s k hk).2.1
        by_cases hf : A[u] < 1000
        · obtain ⟨w, h4, h5⟩ := (hA.snd u _ hau).2.2 hf
          have := hA.cmp s (m :: w) (acc_cons hu h4) k hk
          simp at this
          omega
        · omega
      rcases Nat.lt_trichotomy n m with hnm | hnm | hnm
      · refine .inl ⟨out.length, n, m, fun j hj => ?_, by simp, by simp, hnm⟩
        rw [List.getElem?_append_left hj, List.getElem?_append_left hj]
      · subst hnm
        rw [hs] at hu
        cases hu
        exact .inr ⟨v', by simp, hv2⟩
      · exact absurd (by rw [hau, c2]) (hmin m hnm u hu)
theorem way_end {A : List Int} (hA : Dist T F A) {d : Int} (h0 : A[0]? = some d) {out : List Nat} {s : Nat} (hW : Way T F d A out s) (hs : A[s]? = some 0) : Least T F out := by
  obtain ⟨h1, ⟨k', hk', hd⟩, h3⟩ := hW
  rw [hs] at hk'
  cases hk'
  obtain ⟨w, hw, hl⟩ := (hA.snd s 0 hs).2.2 (by decide)
  have : w = [] := List.eq_nil_of_length_eq_zero (by omega)
  subst this
  have hacc : Acc T F 0 out := ⟨s, h1, acc_nil.1 hw⟩
  refine ⟨hacc, fun v hv => ?_⟩
  have hc := hA.cmp 0 v hv d h0
  by_cases hvd : (v.length : Int) = d
  · refine .inr ⟨by omega, ?_⟩
    rcases h3 v hv hvd with h | ⟨v', rfl, _⟩
    · exact .inr h
    · have : v' = [] := List.eq_nil_of_length_eq_zero (by simp at hvd; omega)
      subst this; exact .inl (by simp)
  · exact .inl (by omega)

/-! ### The search -/
structure Bfs (T : List (List Int)) (F : List Bool) (E : List (Nat × List Nat)) (p q j : Nat) (S : List Bool) : Prop where
  zero : E[0]? = some (0, [])
  ent : ∀ (i s : Nat) (w : List Nat), E[i]? = some (s, w) → runW T 0 w = some s
  len : S.length = T.length
  seen : ∀ s : Nat, S[s]? = some true ↔ ∃ (i : Nat) (w : List Nat), E[i]? = some (s, w)
  one : ∀ (i i' s : Nat) (w w' : List Nat), E[i]? = some (s, w) → E[i']? = some (s, w') → i = i'
  non : ∀ (i s : Nat) (w : List Nat), i < q → E[i]? = some (s, w) → F[s]? ≠ some true
  nxt : ∀ (i s n t : Nat) (w : List Nat), i < p ∨ (i = p ∧ n < j) → E[i]? = some (s, w) → stp T s n = some t → ∃ (i' : Nat) (w' : List Nat), E[i']? = some (t, w') ∧ sle w' (w ++ [n])
  srt : ∀ (i i' s s' : Nat) (w w' : List Nat), i ≤ i' → E[i]? = some (s, w) → E[i']? = some (s', w') → sle w w'
  org : ∀ (i s : Nat) (w : List Nat), E[i]? = some (s, w) → w = [] ∨ ∃ (i0 n s0 : Nat) (w0 : List Nat), E[i0]? = some (s0, w0) ∧ w = w0 ++ [n] ∧ (i0 < p ∨ (i0 = p ∧ n < j))
  wl : ∀ (i s : Nat) (w : List Nat), E[i]? = some (s, w) → w.length ≤ i
theorem get_push {α : Type} {E : List α} {x y : α} {i : Nat} (h : (E ++ [x])[i]? = some y) : E[i]? = some y ∨ (i = E.length ∧ y = x) := by
  rcases Nat.lt_trichotomy i E.length with hi | hi | hi
  · rw [List.getElem?_append_left hi] at h; exact .inl h
  · subst hi; simp at h; exact .inr ⟨rfl, h.symm⟩
  · rw [List.getElem?_eq_none (by simp; omega)] at h; cases h
theorem get_old {α : Type} {E : List α} {x y : α} {i : Nat} (h : E[i]? = some y) : (E ++ [x])[i]? = some y := by
  rw [List.getElem?_append_left (List.getElem?_eq_some_iff.1 h).1]; exact h
theorem bfs_start (hM : Mach T F) : Bfs T F [(0, [])] 0 0 0 ((List.replicate T.length false).set 0 true) := by
  have g : ∀ (i s : Nat) (w : List Nat), [(0, ([] : List Nat))][i]? = some (s, w) → i = 0 ∧ s = 0 ∧ w = [] := fun i s w h => by
    cases i with
    | zero => simp at h; exact ⟨rfl, h.1.symm, h.2⟩
    | succ i => simp at h
  refine ⟨rfl, fun i s w h => ?_, by simp, fun s => ?_, fun i i' s w w' h h' => ?_, fun i s w h => by omega, fun i s n t w h => by omega, fun i i' s s' w w' _ h h' => ?_, fun i s w h => .inl (g i s w h).2.2, fun i s w h => by rw [(g i s w h).2.2]; exact Nat.zero_le _⟩
  · obtain ⟨_, rfl, rfl⟩ := g i s w h; rfl
  · have hp := hM.pos
    constructor
    · intro h
      by_cases hs : s = 0
      · subst hs; exact ⟨0, [], rfl⟩
      · rw [List.getElem?_set_ne (Ne.symm hs), List.getElem?_replicate] at h
        split at h <;> simp at h
    · rintro ⟨i, w, h⟩
      obtain ⟨_, rfl, _⟩ := g i s w h
      simp [hp]
  · rw [(g i s w h).1, (g i' s w' h').1]
  · rw [(g i s w h).2.2]; exact sle_nil _
theorem bfs_next {E : List (Nat × List Nat)} {p : Nat} {S : List Bool} (hB : Bfs T F E p (p + 1) 8 S) (hM : Mach T F) : Bfs T F E (p + 1) (p + 1) 0 S := by
  refine ⟨hB.zero, hB.ent, hB.len, hB.seen, hB.one, hB.non, fun i s n t w hi he hs => ?_, hB.srt, fun i s w h => ?_, hB.wl⟩
  · refine hB.nxt i s n t w ?_ he hs
    have := (stp_lt hM hs).2.1
    omega
  · rcases hB.org i s w h with h | ⟨i0, n, s0, w0, h1, h2, h3⟩
    · exact .inl h
    · exact .inr ⟨i0, n, s0, w0, h1, h2, by omega⟩
theorem bfs_head {E : List (Nat × List Nat)} {p : Nat} {S : List Bool} {s : Nat} {w : List Nat} (hB : Bfs T F E p p 0 S) (he : E[p]? = some (s, w)) (hf : F[s]? ≠ some true) : Bfs T F E p (p + 1) 0 S := by
  refine ⟨hB.zero, hB.ent, hB.len, hB.seen, hB.one, fun i s' w' hi h => ?_, hB.nxt, hB.srt, hB.org, hB.wl⟩
  by_cases hip : i = p
  · subst hip; rw [he] at h; cases h; exact hf
  · exact hB.non i s' w' (by omega) h
/-- A letter that leads nowhere, or where one was. -/
theorem bfs_skip {E : List (Nat × List Nat)} {p j : Nat} {S : List Bool} {s : Nat} {w : List Nat} (hB : Bfs T F E p (p + 1) j S) (he : E[p]? = some (s, w)) (hs : ∀ t, stp T s j = some t → S[t]? = some true) : Bfs T F E p (p + 1) (j + 1) S := by
  refine ⟨hB.zero, hB.ent, hB.len, hB.seen, hB.one, hB.non, fun i s' n t w' hi h hst => ?_, hB.srt, fun i s' w' h => ?_, hB.wl⟩
  · by_cases hij : i = p ∧ n = j
    · obtain ⟨rfl, rfl⟩ := hij
      rw [he] at h
      cases h
      obtain ⟨i', w'', h2⟩ := (hB.seen t).1 (hs t hst)
      refine ⟨i', w'', h2, ?_⟩
      rcases hB.org i' t w'' h2 with rfl | ⟨i0, n0, s0, w0, h3, rfl, h4⟩
      · exact sle_nil _
      · rcases h4 with h4 | ⟨rfl, h4⟩
        · have h5 := hB.srt i0 i s0 s w0 w (by omega) h3 he
          rcases h5 with h5 | ⟨e, h5⟩
          · exact .inl (by simp; omega)
          · refine .inr ⟨by simp; omega, ?_⟩
            rcases h5 with rfl | h5
            · have e1 := hB.ent i0 s0 w0 h3
              have e2 := hB.ent i s w0 he
              rw [e1] at e2
              cases e2
              have := hB.one _ _ _ _ _ h3 he
              omega
            · exact .inr (lexlt_app h5)
        · rw [he] at h3
          cases h3
          exact .inr ⟨by simp, .inr (lexlt_last _ h4)⟩
    · exact hB.nxt i s' n t w' (by omega) h hst
  · rcases hB.org i s' w' h with h | ⟨i0, n, s0, w0, h1, h2, h3⟩
    · exact .inl h
    · exact .inr ⟨i0, n, s0, w0, h1, h2, by omega⟩
/-- A letter that leads to a new state. -/
theorem bfs_push {E : List (Nat × List Nat)} {p j t : Nat} {S : List Bool} {s : Nat} {w : List Nat} (hM : Mach T F) (hB : Bfs T F E p (p + 1) j S) (he : E[p]? = some (s, w)) (hs : stp T s j = some t) (hn : S[t]? ≠ some true) : Bfs T F (E ++ [(t, w ++ [j])]) p (p + 1) (j + 1) (S.set t true) := by
  have hpl := (List.getElem?_eq_some_iff.1 he).1
  have htl := (stp_lt hM hs).1
  have hbig : ∀ (i s' : Nat) (w' : List Nat), E[i]? = some (s', w') → sle w' (w ++ [j]) := fun i s' w' h => by
    rcases hB.org i s' w' h with rfl | ⟨i0, n0, s0, w0, h3, rfl, h4⟩
    · exact sle_nil _
    · rcases h4 with h4 | ⟨rfl, h4⟩
      · have h5 := hB.srt i0 p s0 s w0 w (by omega) h3 he
        rcases h5 with h5 | ⟨e, h5⟩
        · exact .inl (by simp; omega)
        · refine .inr ⟨by simp; omega, ?_⟩
          rcases h5 with rfl | h5
          · have e1 := hB.ent i0 s0 w0 h3
            have e2 := hB.ent p s w0 he
            rw [e1] at e2
            cases e2
            have := hB.one _ _ _ _ _ h3 he
            omega
          · exact .inr (lexlt_app h5)
      · rw [he] at h3
        cases h3
        exact .inr ⟨by simp, .inr (lexlt_last _ h4)⟩
  refine ⟨get_old hB.zero, fun i s' w' h => ?_, by simp [hB.len], fun s' => ?_, fun i i' s' w' w'' h h' => ?_, fun i s' w' hi h => ?_, fun i s' n u w' hi h hst => ?_, fun i i' s' s'' w' w'' hii h h' => ?_, fun i s' w' h => ?_, fun i s' w' h => ?_⟩
  · rcases get_push h with h | ⟨_, h⟩
    · exact hB.ent i s' w' h
    · cases h
      rw [run_app T w [j] 0 s (hB.ent p s w he), run_one]; exact hs
  · by_cases hst : s' = t
    · subst hst
      constructor
      · intro _; exact ⟨E.length, w ++ [j], by simp⟩
      · intro _; simp [hB.len, htl]
    · rw [List.getElem?_set_ne (Ne.symm hst), hB.seen]
      constructor
      · rintro ⟨i, w', h⟩; exact ⟨i, w', get_old h⟩
      · rintro ⟨i, w', h⟩
        rcases get_push h with h | ⟨_, h⟩
        · exact ⟨i, w', h⟩
        · cases h; exact absurd rfl hst
  · rcases get_push h with h | ⟨hi, h⟩
    · rcases get_push h' with h' | ⟨hi', h'⟩
      · exact hB.one i i' s' w' w'' h h'
      · cases h'; exact absurd ((hB.seen _).2 ⟨i, w', h⟩) hn
    · rcases get_push h' with h' | ⟨hi', h'⟩
      · cases h; exact absurd ((hB.seen _).2 ⟨i', w'', h'⟩) hn
      · omega
  · rcases get_push h with h | ⟨hi', h⟩
    · exact hB.non i s' w' hi h
    · omega
  · rcases get_push h with hg | ⟨hi', hg⟩
    · by_cases hij : i = p ∧ n = j
      · obtain ⟨rfl, rfl⟩ := hij
        rw [he] at hg
        cases hg
        rw [hs] at hst
        cases hst
        exact ⟨E.length, _, by simp, sle_refl _⟩
      · obtain ⟨i', w'', h2, h3⟩ := hB.nxt i s' n u w' (by omega) hg hst
        exact ⟨i', w'', get_old h2, h3⟩
    · omega
  · rcases get_push h with h | ⟨hi, h⟩
    · rcases get_push h' with h' | ⟨hi', h'⟩
      · exact hB.srt i i' s' s'' w' w'' hii h h'
      · cases h'; exact hbig i s' w' h
    · rcases get_push h' with h' | ⟨hi', h'⟩
      · have := (List.getElem?_eq_some_iff.1 h').1
        omega
      · cases h; cases h'; exact sle_refl _
  · rcases get_push h with h | ⟨hi, h⟩
    · rcases hB.org i s' w' h with h | ⟨i0, n, s0, w0, h1, h2, h3⟩
      · exact .inl h
      · exact .inr ⟨i0, n, s0, w0, get_old h1, h2, by omega⟩
    · cases h
      exact .inr ⟨p, j, s, w, get_old he, rfl, by omega⟩
  · rcases get_push h with h | ⟨hi, h⟩
    · exact hB.wl i s' w' h
    · cases h
      have := hB.wl p s w he
      simp; omega
theorem sle_pre (u v : List Nat) : sle u (u ++ v) := by
  cases v with
  | nil => rw [List.append_nil]; exact sle_refl _
  | cons a v => exact .inl (by simp)
/-- Each word has come by here, or is still to come by what waits. -/
theorem bfs_all {E : List (Nat × List Nat)} {p : Nat} {S : List Bool} (hB : Bfs T F E p p 0 S) : ∀ (m : Nat) (u : List Nat) (t : Nat), u.length = m → runW T 0 u = some t →
    (∃ (i : Nat) (w : List Nat), i < p ∧ E[i]? = some (t, w) ∧ sle w u) ∨ (∃ (i s : Nat) (w : List Nat), p ≤ i ∧ E[i]? = some (s, w) ∧ sle w u) := by
  have go : ∀ (t i : Nat) (w u : List Nat), E[i]? = some (t, w) → sle w u → (∃ (i : Nat) (w : List Nat), i < p ∧ E[i]? = some (t, w) ∧ sle w u) ∨ (∃ (i s : Nat) (w : List Nat), p ≤ i ∧ E[i]? = some (s, w) ∧ sle w u) := fun t i w u h1 h2 => by
    by_cases hi : i < p
    · exact .inl ⟨i, w, hi, h1, h2⟩
    · exact .inr ⟨i, t, w, by omega, h1, h2⟩
  intro m
  induction m with
  | zero =>
    intro u t hu hr
    have : u = [] := List.eq_nil_of_length_eq_zero hu
    subst this
    simp [runW] at hr
    subst hr
    exact go 0 0 [] [] hB.zero (sle_refl _)
  | succ m ih =>
    intro u t hu hr
    rcases List.eq_nil_or_concat u with rfl | ⟨u1, n, rfl⟩
    · simp at hu
    · rw [List.concat_eq_append] at hr hu ⊢
      obtain ⟨s, h1, h2⟩ := run_split T u1 [n] 0 t hr
      rw [run_one] at h2
      rcases ih u1 s (by simp at hu; omega) h1 with ⟨i, w, hi, h3, h4⟩ | ⟨i, s', w, hi, h3, h4⟩
      · obtain ⟨i', w', h5, h6⟩ := hB.nxt i s n t w (.inl hi) h3 h2
        exact go t i' w' _ h5 (sle_trans h6 (sle_snoc h4))
      · exact .inr ⟨i, s', w, hi, h3, sle_trans h4 (sle_pre _ _)⟩
theorem bfs_len {E : List (Nat × List Nat)} {p q j : Nat} {S : List Bool} (hM : Mach T F) (hB : Bfs T F E p q j S) : E.length ≤ T.length := by
  have h1 : (E.map (·.1)).Nodup := by
    unfold List.Nodup
    rw [List.pairwise_iff_getElem]
    intro i k hi hk hik he
    simp only [List.length_map] at hi hk
    simp only [List.getElem_map] at he
    have := hB.one i k E[i].1 E[i].2 E[k].2 (by rw [List.getElem?_eq_getElem hi]) (by rw [List.getElem?_eq_getElem hk, he])
    omega
  have := nodup_bound (n := T.length) _ h1 (fun x hx => by
    obtain ⟨e, he, rfl⟩ := List.mem_map.1 hx
    obtain ⟨i, hi⟩ := List.mem_iff_getElem?.1 he
    exact run_lt hM _ _ _ hM.pos (hB.ent i e.1 e.2 hi))
  simpa using this
theorem bfs_found {E : List (Nat × List Nat)} {p s : Nat} {w : List Nat} {S : List Bool} (hB : Bfs T F E p p 0 S) (he : E[p]? = some (s, w)) (hf : F[s]? = some true) : Least T F w := by
  refine ⟨⟨s, hB.ent p s w he, hf⟩, fun v hv => ?_⟩
  obtain ⟨t, h1, h2⟩ := hv
  rcases bfs_all hB _ v t rfl h1 with ⟨i, w', hi, h3, _⟩ | ⟨i, s', w', hi, h3, h4⟩
  · exact absurd h2 (hB.non i t w' hi h3)
  · exact sle_trans (hB.srt p i s s' w w' hi he h3) h4
theorem bfs_none {E : List (Nat × List Nat)} {p : Nat} {S : List Bool} (hB : Bfs T F E p p 0 S) (hp : E.length ≤ p) (v : List Nat) : ¬ Acc T F 0 v := by
  rintro ⟨t, h1, h2⟩
  rcases bfs_all hB _ v t rfl h1 with ⟨i, w', hi, h3, _⟩ | ⟨i, s', w', hi, h3, h4⟩
  · exact absurd h2 (hB.non i t w' hi h3)
  · have := (List.getElem?_eq_some_iff.1 h3).1
    omega
end
end Go.Proofs.Ytaapdbcbefnhgaa
