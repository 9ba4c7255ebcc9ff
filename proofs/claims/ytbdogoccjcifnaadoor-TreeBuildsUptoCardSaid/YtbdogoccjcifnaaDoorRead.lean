/- How arguments that read as data stand for abstract values. No conditions. -/
import Derived.Test.YtbdogoccjcifnaaDoorLib
import Derived.ProofKit
set_option linter.unusedSimpArgs false
set_option linter.unusedVariables false
set_option maxRecDepth 100000
namespace Go.Proofs.YtbdogoccjcifnaaDoor
open Go.RowKit

/-- These cells are the value's. -/
def CellsAre (w : World) (vs : List Value) (x : V) : Prop :=
  vs.length = x.cells.length ∧ (∀ u ∈ vs, u.oneCell' = true) ∧ ∀ (j : Nat) (u : Value) (c : V), vs[j]? = some u → x.cells[j]? = some c → Pr w (fun b => b < w.heap.size) u c

/-- What reads as a t (with so much fuel) is some a's value; a is good, and no bulkier than what was read. -/
def Reads (P : Program) (t : TypeId) {α : Type} (f : α → V) (ok : α → Prop) (sz : α → Nat) (n : Nat) : Prop :=
  ∀ (H : Type) (enc : TypeId × Value → H) (w : World) (cs : List Value) (d : DataW H) (ps : List MemPlace), DataW.trod enc P w 0 (fun _ => true) true n t cs = some (d, ps) → (∀ x ∈ ps, x.block < w.heap.size) →
    ∃ a : α, CellsAre w cs (f a) ∧ ok a ∧ sz a ≤ Rows.uptoBulk d

theorem Reads.zero {P : Program} {t : TypeId} {α : Type} {f : α → V} {ok : α → Prop} {sz : α → Nat} : Reads P t f ok sz 0 := by
  intro H enc w cs d ps h
  simp [DataW.trod] at h

theorem reads_bool {P : Program} {t : TypeId} (ht : P.underlying t = some .bool) (n : Nat) : Reads P t V.bool (fun _ => True) (fun _ => 1) n := by
  cases n with
  | zero => exact Reads.zero
  | succ n =>
    intro H enc w cs d ps h hps
    have hc : ∃ b, cs = [.bool b] ∧ d = .lit (.bool b) := by
      cases cs with
      | nil => simp [DataW.trod, ht] at h
      | cons v r => cases r with
        | nil => cases v <;> simp [DataW.trod, ht] at h <;> exact ⟨_, rfl, h.1.symm⟩
        | cons v' r => cases v <;> simp [DataW.trod, ht] at h
    obtain ⟨b, rfl, rfl⟩ := hc
    exact ⟨b, ⟨rfl, fun u hu => by simp at hu; subst hu; rfl, fun j u c hu hc => by
      cases j with
      | zero => simp [V.cells] at hu hc; subst hu; subst hc; exact .bool b
      | succ j => simp at hu⟩, trivial, by simp [Rows.uptoBulk]⟩

theorem reads_int {P : Program} {t : TypeId} {k : IntKind} (ht : P.underlying t = some (.int k)) (n : Nat) : Reads P t (V.int k) (fun m => k.min ≤ m ∧ m ≤ k.max) (fun _ => 1) n := by
  cases n with
  | zero => exact Reads.zero
  | succ n =>
    intro H enc w cs d ps h hps
    have hc : ∃ m, cs = [.int k m] ∧ d = .lit (.int k m) ∧ (Lit.int k m).wf = true := by
      cases cs with
      | nil => simp [DataW.trod, ht] at h
      | cons v r => cases r with
        | nil => cases v <;> simp [DataW.trod, ht] at h <;> (obtain ⟨⟨rfl, hw⟩, rfl, _⟩ := h; exact ⟨_, rfl, rfl, hw⟩)
        | cons v' r => cases v <;> simp [DataW.trod, ht] at h
    obtain ⟨m, rfl, rfl, hw⟩ := hc
    refine ⟨m, ⟨rfl, fun u hu => by simp at hu; subst hu; rfl, fun j u c hu hc => by
      cases j with
      | zero => simp [V.cells] at hu hc; subst hu; subst hc; exact .int k m
      | succ j => simp at hu⟩, by simpa [Lit.wf] using hw, by simp [Rows.uptoBulk]⟩

theorem reads_str {P : Program} {t : TypeId} (ht : P.underlying t = some .string) (n : Nat) : Reads P t V.str (fun s => s.length ≤ maxLen) (fun s => s.length + 1) n := by
  cases n with
  | zero => exact Reads.zero
  | succ n =>
    intro H enc w cs d ps h hps
    have hc : ∃ s : ByteArray, cs = [.string s] ∧ d = .lit (.string s.data.toList) ∧ s.size ≤ maxLen := by
      cases cs with
      | nil => simp [DataW.trod, ht] at h
      | cons v r => cases r with
        | nil => cases v <;> simp [DataW.trod, ht] at h <;> (obtain ⟨hw, rfl, _⟩ := h; exact ⟨_, rfl, rfl, hw⟩)
        | cons v' r => cases v <;> simp [DataW.trod, ht] at h
    obtain ⟨s, rfl, rfl, hs⟩ := hc
    exact ⟨s.data.toList, ⟨rfl, fun u hu => by simp at hu; subst hu; rfl, fun j u c hu hc => by
      cases j with
      | zero => simp [V.cells] at hu hc; subst hu; subst hc; exact .str s hs
      | succ j => simp at hu⟩, hs, by simp [Rows.uptoBulk]⟩

theorem mapM_some {α β : Type} {f : β → Option α} : ∀ {xs : List β} {l : List α}, xs.mapM f = some l → l.length = xs.length ∧ ∀ (i : Nat) (k : β), xs[i]? = some k → ∃ x, f k = some x ∧ l[i]? = some x := by
  intro xs
  induction xs with
  | nil => intro l h; simp at h; subst h; exact ⟨rfl, fun i k hk => by simp at hk⟩
  | cons y ys ih =>
    intro l h
    simp only [List.mapM_cons] at h
    cases hy : f y with
    | none => simp [hy] at h
    | some b =>
      cases hys : ys.mapM f with
      | none => simp [hy, hys] at h
      | some bs =>
        simp [hy, hys] at h
        subst h
        obtain ⟨h1, h2⟩ := ih hys
        refine ⟨by simp [h1], fun i k hk => ?_⟩
        cases i with
        | zero => simp at hk; subst hk; exact ⟨b, hy, rfl⟩
        | succ i => simpa using h2 i k (by simpa using hk)

theorem bulk_sum {H α : Type} (sz : α → Nat) : ∀ (l : List α) (ds : List (DataW H)), l.length = ds.length → (∀ (i : Nat) (a : α) (d : DataW H), l[i]? = some a → ds[i]? = some d → sz a ≤ Rows.uptoBulk d) → (l.map sz).sum ≤ Rows.uptoBulkAll ds
  | [], [], _, _ => by simp [Rows.uptoBulkAll]
  | a :: l, d :: ds, hl, h => by
    have h0 := h 0 a d rfl rfl
    have := bulk_sum sz l ds (by simpa using hl) (fun i a d ha hd => h (i + 1) a d (by simpa using ha) (by simpa using hd))
    simp [Rows.uptoBulkAll]
    omega
  | [], _ :: _, hl, _ => by simp at hl
  | _ :: _, [], hl, _ => by simp at hl

theorem reads_slice {P : Program} {t e : TypeId} {α : Type} {f : α → V} {ok : α → Prop} {sz : α → Nat} {n z : Nat} (ht : P.underlying t = some (.slice e)) (hz : P.cellsOf e = z) (hf : ∀ a, (f a).cells.length = z) (hz0 : z ≠ 0) (h : Reads P e f ok sz n) :
    Reads P t (fun l : List α => .lst (l.map f)) (fun l => l.length ≤ maxLen ∧ ∀ a ∈ l, ok a) (fun l => (l.map sz).sum + 1) (n + 1) := by
  intro H enc w cs d ps hd hps
  have hc : (cs = [.slice none 0 0] ∧ d = .nil) ∨ ∃ (a : Addr) (len cap : Nat) (elems rest : List (DataW H × List MemPlace)), cs = [.slice (some a) len cap] ∧ len ≤ cap ∧ cap ≤ maxLen ∧
      (List.range len).mapM (fun i => (w.cells? 0 (a.add (i * z)) z).bind (DataW.trod enc P w 0 (fun _ => true) true n e)) = some elems ∧ d = .slice (elems.map (·.1)) (rest.map (·.1)) ∧ ps = MemPlace.row a ((elems.length + rest.length) * z) ++ (elems ++ rest).flatMap (·.2) := by
    cases cs with
    | nil => simp [DataW.trod, ht] at hd
    | cons v r => cases r with
      | cons v' r => cases v <;> simp [DataW.trod, ht] at hd
      | nil =>
        cases v with
        | slice a len cap =>
          cases a with
          | none =>
            cases len with
            | zero => cases cap with
              | zero => simp [DataW.trod, ht] at hd; exact .inl ⟨rfl, hd.1.symm⟩
              | succ c => simp [DataW.trod, ht] at hd
            | succ l => simp [DataW.trod, ht] at hd
          | some a =>
            right
            simp only [DataW.trod, ht, hz] at hd
            split at hd
            · rename_i hc
              cases hel : (List.range len).mapM (fun i => (w.cells? 0 (a.add (i * z)) z).bind (DataW.trod enc P w 0 (fun _ => true) true n e)) with
              | none => simp [hel] at hd
              | some elems =>
                simp only [hel, Option.bind_some, if_true] at hd
                cases hre : (List.range (cap - len)).mapM (fun j => (w.cells? 0 (a.add ((len + j) * z)) z).bind (DataW.trod enc P w 0 (fun _ => true) true n e)) with
                | none => simp [hre] at hd
                | some rest =>
                  simp only [hre, Option.map_some, Option.some.injEq, Prod.mk.injEq] at hd
                  exact ⟨a, len, cap, elems, rest, rfl, hc.2.1, hc.2.2, hel, hd.1.symm, hd.2.symm⟩
            · cases hd
        | _ => simp [DataW.trod, ht] at hd
  rcases hc with ⟨rfl, rfl⟩ | ⟨a, len, cap, elems, rest, rfl, hlc, hcm, hel, rfl, rfl⟩
  · exact ⟨[], ⟨rfl, fun u hu => by simp at hu; subst hu; rfl, fun j u c hu hc => by
      cases j with
      | zero => simp [V.cells] at hu hc; subst hu; subst hc; exact .lnil none 0
      | succ j => simp at hu⟩, ⟨by simp [maxLen], by simp⟩, by simp [Rows.uptoBulk]⟩
  · obtain ⟨hl, hi⟩ := mapM_some hel
    simp only [List.length_range] at hl
    have each : ∀ i : Fin len, ∃ x : α × List Value, w.cells? 0 (a.add (i * z)) z = some x.2 ∧ CellsAre w x.2 (f x.1) ∧ ok x.1 ∧ ∀ y, elems[i.val]? = some y → sz x.1 ≤ Rows.uptoBulk y.1 := by
      intro i
      obtain ⟨y, hy, hyi⟩ := hi i.val i.val (by simp)
      cases hcs : w.cells? 0 (a.add (i * z)) z with
      | none => simp [hcs] at hy
      | some vs =>
        simp only [hcs, Option.bind_some] at hy
        obtain ⟨x, h1, h2, h3⟩ := h H enc w vs y.1 y.2 hy (fun p hp => hps p (by
          simp only [List.mem_append, List.mem_flatMap]
          right
          exact ⟨y, .inl (List.mem_of_getElem? hyi), hp⟩))
        refine ⟨(x, vs), rfl, h1, h2, fun y' hy' => ?_⟩
        rw [hyi] at hy'
        simp only [Option.some.injEq] at hy'
        subst hy'
        exact h3
    obtain ⟨g, hg⟩ := Classical.axiomOfChoice each
    have hget : ∀ i (hi : i < len), (List.ofFn fun i => (g i).1)[i]? = some (g ⟨i, hi⟩).1 := by
      intro i hi
      rw [List.getElem?_ofFn, dif_pos hi]
    refine ⟨List.ofFn fun i => (g i).1, ⟨rfl, fun u hu => by simp at hu; subst hu; rfl, fun j u c hu hc => ?_⟩, ⟨by simp; omega, fun x hx => ?_⟩, ?_⟩
    · cases j with
      | succ j => simp at hu
      | zero =>
        simp [V.cells] at hu hc
        subst hu; subst hc
        by_cases h0 : len = 0
        · subst h0
          simp only [List.ofFn_zero, List.map_nil]
          exact .lnil _ _
        · have hcell : ∀ (i : Fin len) (j : Nat) (u : Value), (g i).2[j]? = some u → j < z ∧ w.cell? (((a.add (i * z))).add j) = some u := by
            intro i j u hu
            have hc := (hg i).1
            unfold World.cells? at hc
            rw [if_pos (Nat.zero_le _)] at hc
            obtain ⟨h1, h2⟩ := mapM_some hc
            simp only [List.length_range] at h1
            have hj : j < z := by rw [← h1]; exact (List.getElem?_eq_some_iff.1 hu).1
            obtain ⟨u', hu', hu2⟩ := h2 j j (by simp [hj])
            rw [hu] at hu2
            simp only [Option.some.injEq] at hu2
            subst hu2
            exact ⟨hj, hu'⟩
          obtain ⟨b, off, spot⟩ := a
          -- the row's places are plain
          · have hlen2 : ∀ i : Fin len, (g i).2.length = z := fun i => by rw [(hg i).2.1.1, hf]
            have hspot : spot = none := by
              have h1 : 0 < (g ⟨0, by omega⟩).2.length := by rw [hlen2]; omega
              have h2 := (hcell ⟨0, by omega⟩ 0 _ (List.getElem?_eq_getElem h1)).2
              simpa [Addr.add] using World.cell?_spot h2
            subst hspot
            let u : Nat → Nat → Value := fun i j => if hi : i < len then (g ⟨i, hi⟩).2.getD j (.bool true) else .bool true
            have := Pr.lst (w := w) (I := fun b => b < w.heap.size) b off cap z ((List.ofFn fun i => (g i).1).map f) u (by
                have := hps (.cell b off) (by
                  simp only [List.mem_append]
                  left
                  exact MemPlace.mem_row.2 ⟨0, Nat.mul_pos (by omega) (by omega), by simp⟩)
                exact this) (by simp; omega) hcm (by
                intro i x hx
                simp only [List.getElem?_map, Option.map_eq_some_iff] at hx
                obtain ⟨y, _, rfl⟩ := hx
                exact hf y) (by
                intro i j hi hj
                simp only [List.length_map, List.length_ofFn] at hi
                have hj' : j < (g ⟨i, hi⟩).2.length := by rw [hlen2]; exact hj
                have := (hcell ⟨i, hi⟩ j _ (List.getElem?_eq_getElem hj')).2
                rw [Addr.add_lit, Addr.add_lit] at this
                rw [this]
                simp only [u, dif_pos hi]
                simp [List.getD, List.getElem?_eq_getElem hj']) (by
                intro i j
                simp only [u]
                split
                · rename_i hi
                  by_cases hj : j < (g ⟨i, hi⟩).2.length
                  · simp only [List.getD, List.getElem?_eq_getElem hj, Option.getD_some]
                    exact (hg ⟨i, hi⟩).2.1.2.1 _ (List.getElem_mem hj)
                  · simp only [List.getD, List.getElem?_eq_none (Nat.le_of_not_lt hj), Option.getD_none]
                    rfl
                · rfl) (by
                intro i x j c hx hc
                simp only [List.getElem?_map, Option.map_eq_some_iff] at hx
                obtain ⟨y, hy, rfl⟩ := hx
                have hi : i < len := by
                  have := (List.getElem?_eq_some_iff.1 hy).1
                  simpa using this
                rw [hget i hi] at hy
                simp only [Option.some.injEq] at hy
                subst hy
                have hj : j < (g ⟨i, hi⟩).2.length := by rw [(hg ⟨i, hi⟩).2.1.1]; exact (List.getElem?_eq_some_iff.1 hc).1
                simp only [u, dif_pos hi]
                simp only [List.getD, List.getElem?_eq_getElem hj, Option.getD_some]
                exact (hg ⟨i, hi⟩).2.1.2.2 j _ c (List.getElem?_eq_getElem hj) hc)
            simpa using this
    · simp only [List.mem_ofFn] at hx
      obtain ⟨i, rfl⟩ := hx
      exact (hg i).2.2.1
    · simp only [Rows.uptoBulk]
      have := bulk_sum (H := H) sz (List.ofFn fun i => (g i).1) (elems.map (·.1)) (by simp [hl]) (by
        intro i x d hx hd
        have hi : i < len := by
          have := (List.getElem?_eq_some_iff.1 hx).1
          simpa using this
        rw [hget i hi] at hx
        simp only [Option.some.injEq] at hx
        subst hx
        simp only [List.getElem?_map, Option.map_eq_some_iff] at hd
        obtain ⟨y, hy, rfl⟩ := hd
        exact (hg ⟨i, hi⟩).2.2.2 y hy)
      omega

/-- The fields of a struct, from cell o on. -/
def ReadsFs (P : Program) (o : Nat) (fs : List Field) {α : Type} (g : α → List V) (ok : α → Prop) (sz : α → Nat) (n : Nat) : Prop :=
  ∀ (H : Type) (enc : TypeId × Value → H) (w : World) (cs : List Value) (xs : List (DataW H × List MemPlace)), fs.mapM (fun f => DataW.trod enc P w 0 (fun _ => true) true n f.type ((cs.drop f.offset).take (P.cellsOf f.type))) = some xs →
    (∀ x ∈ xs, ∀ p ∈ x.2, p.block < w.heap.size) → ∃ a : α, CellsAre w ((cs.drop o).take (g a).length) (.agg (g a)) ∧ ok a ∧ sz a ≤ Rows.uptoBulkAll (xs.map (·.1))

theorem reads_fs_nil {P : Program} {o n : Nat} : ReadsFs P o [] (fun _ : Unit => []) (fun _ => True) (fun _ => 0) n := by
  intro H enc w cs xs h _
  exact ⟨(), ⟨by simp [V.cells], by simp, by simp [V.cells]⟩, trivial, Nat.zero_le _⟩

theorem reads_fs_cons {P : Program} {o n z : Nat} {fd : Field} {fs : List Field} {α β : Type} {f : α → V} {g : β → List V} {ok : α → Prop} {ok' : β → Prop} {sz : α → Nat} {sz' : β → Nat} (hoff : fd.offset = o) (hz : P.cellsOf fd.type = z) (hf : ∀ a, (f a).cells.length = z)
    (h : Reads P fd.type f ok sz n) (k : ReadsFs P (o + z) fs g ok' sz' n) : ReadsFs P o (fd :: fs) (fun x : α × β => (f x.1).cells ++ g x.2) (fun x => ok x.1 ∧ ok' x.2) (fun x => sz x.1 + sz' x.2) n := by
  intro H enc w cs xs hx hps
  simp only [List.mapM_cons] at hx
  cases hy : DataW.trod enc P w 0 (fun _ => true) true n fd.type ((cs.drop fd.offset).take (P.cellsOf fd.type)) with
  | none => simp [hy] at hx
  | some y =>
    cases hys : fs.mapM (fun f => DataW.trod enc P w 0 (fun _ => true) true n f.type ((cs.drop f.offset).take (P.cellsOf f.type))) with
    | none => simp [hy, hys] at hx
    | some ys =>
      simp [hy, hys] at hx
      subst hx
      rw [hoff, hz] at hy
      obtain ⟨a, h1, h2, h3⟩ := h H enc w _ y.1 y.2 hy (fun p hp => hps y (by simp) p hp)
      obtain ⟨b, k1, k2, k3⟩ := k H enc w cs ys hys (fun x hx => hps x (by simp [hx]))
      refine ⟨(a, b), ?_, ⟨h2, k2⟩, by simp [Rows.uptoBulkAll]; omega⟩
      have e1 : (cs.drop o).take ((f a).cells ++ g b).length = (cs.drop o).take z ++ (cs.drop (o + z)).take (g b).length := by
        rw [List.length_append, hf a, List.take_add, List.drop_drop]
      simp only
      rw [e1]
      have l1 : ((cs.drop o).take z).length = z := by rw [h1.1, hf]
      refine ⟨by rw [List.length_append, h1.1, k1.1]; simp [V.cells], fun u hu => ?_, fun j u c hu hc => ?_⟩
      · rw [List.mem_append] at hu
        exact hu.elim (h1.2.1 u) (k1.2.1 u)
      · have hc : ((f a).cells ++ g b)[j]? = some c := hc
        rw [List.getElem?_append] at hu hc
        rw [l1] at hu
        rw [hf a] at hc
        split at hu
        · rename_i hj; rw [if_pos hj] at hc; exact h1.2.2 j u c hu hc
        · rename_i hj; rw [if_neg hj] at hc; exact k1.2.2 _ u c hu hc

theorem reads_struct {P : Program} {t : TypeId} {fs : List Field} {α : Type} {g : α → List V} {ok : α → Prop} {sz : α → Nat} {n L : Nat} (ht : P.underlying t = some (.struct fs.toArray)) (hL : P.cellsOf t = L) (hg : ∀ a, (g a).length = L) (h : ReadsFs P 0 fs g ok sz n) :
    Reads P t (fun a => .agg (g a)) ok (fun a => sz a + 1) (n + 1) := by
  intro H enc w cs d ps hd hps
  have hc : cs.length = L ∧ ∃ xs, fs.mapM (fun f => DataW.trod enc P w 0 (fun _ => true) true n f.type ((cs.drop f.offset).take (P.cellsOf f.type))) = some xs ∧ d = .agg (xs.map (·.1)) ∧ ps = xs.flatMap (·.2) := by
    have : DataW.trod enc P w 0 (fun _ => true) true (n + 1) t cs = if cs.length = P.cellsOf t then (fs.toArray.toList.mapM fun f => DataW.trod enc P w 0 (fun _ => true) true n f.type ((cs.drop f.offset).take (P.cellsOf f.type))).map fun xs => (.agg (xs.map (·.1)), xs.flatMap (·.2)) else none := by
      simp only [DataW.trod, ht]
    rw [this, hL] at hd
    split at hd
    · rename_i hl
      simp only [Option.map_eq_some_iff] at hd
      obtain ⟨xs, h1, h2⟩ := hd
      simp only [Prod.mk.injEq] at h2
      exact ⟨hl, xs, h1, h2.1.symm, h2.2.symm⟩
    · cases hd
  obtain ⟨hl, xs, hxs, rfl, rfl⟩ := hc
  obtain ⟨a, h1, h2, h3⟩ := h H enc w cs xs hxs (fun x hx p hp => hps p (List.mem_flatMap.2 ⟨x, hx, hp⟩))
  refine ⟨a, ?_, h2, by simp only [Rows.uptoBulk]; omega⟩
  rw [List.drop_zero, hg a, ← hl, List.take_length] at h1
  exact h1

/-- A struct's fields by their types and places. -/
theorem fields_of {P : Program} {t : TypeId} {sig : List (TypeId × Nat)} (h : (match P.underlying t with | some (.struct a) => some (a.toList.map fun f => (f.type, f.offset)) | _ => none) = some sig) :
    ∃ fs : List Field, P.underlying t = some (.struct fs.toArray) ∧ fs.map (fun f => (f.type, f.offset)) = sig := by
  split at h
  · rename_i a ha
    simp only [Option.some.injEq] at h
    exact ⟨a.toList, by rw [Array.toArray_toList]; exact ha, h⟩
  · cases h
theorem fields_cons {fs : List Field} {t o : Nat} {sig : List (TypeId × Nat)} (h : fs.map (fun f => (f.type, f.offset)) = (t, o) :: sig) : ∃ f r, fs = f :: r ∧ f.type = t ∧ f.offset = o ∧ r.map (fun f => (f.type, f.offset)) = sig := by
  cases fs with
  | nil => simp at h
  | cons f r => simp at h; exact ⟨f, r, rfl, h.1.1, h.1.2, h.2⟩
theorem fields_nil {fs : List Field} (h : fs.map (fun f => (f.type, f.offset)) = []) : fs = [] := by simpa using h

/-- The same under other names. -/
theorem Reads.as {P : Program} {t : TypeId} {α β : Type} {f : α → V} {f' : β → V} {ok : α → Prop} {ok' : β → Prop} {sz : α → Nat} {sz' : β → Nat} {n : Nat} (h : Reads P t f ok sz n) (to : α → β) (h1 : ∀ a, f' (to a) = f a) (h2 : ∀ a, ok a → ok' (to a)) (h3 : ∀ a, sz' (to a) ≤ sz a) :
    Reads P t f' ok' sz' n := by
  intro H enc w cs d ps hd hps
  obtain ⟨a, g1, g2, g3⟩ := h H enc w cs d ps hd hps
  exact ⟨to a, by rw [h1]; exact g1, h2 a g2, Nat.le_trans (h3 a) g3⟩

/-! ### An argument -/
theorem top_one {w : World} {v : Value} {x : V} (hv : v.cells = #[v]) (hx : x.cells = [x]) (h : CellsAre w v.cells.toList x) : Pr w (fun b => b < w.heap.size) v x :=
  h.2.2 0 v x (by rw [hv]; rfl) (by rw [hx]; rfl)
theorem top_agg {w : World} {cs : Array Value} {l : List V} (h : CellsAre w (Value.agg cs).cells.toList (.agg l)) : Pr w (fun b => b < w.heap.size) (.agg cs) (.agg l) :=
  .agg cs.toList l (by simpa [V.cells, Value.cells] using h.1) (fun v hv => h.2.1 v hv) (fun i v c hv hc => h.2.2 i v c hv hc)

/-- An argument of a type that is no struct and no array. -/
theorem arg_one {P : Program} {t : TypeId} {α : Type} {f : α → V} {ok : α → Prop} {sz : α → Nat} (h : ∀ n, Reads P t f ok sz n) (hf : ∀ a, (f a).cells = [f a]) {H : Type} {enc : TypeId × Value → H} {w : World} {v : Value} {d : DataW H} {ps : List MemPlace} (hv : v.cells = #[v])
    (hd : DataW.Trod enc P w 0 (fun _ => true) true t v d ps) (hps : ∀ x ∈ ps, x.block < w.heap.size) : ∃ a, Pr w (fun b => b < w.heap.size) v (f a) ∧ ok a ∧ sz a ≤ Rows.uptoBulk d := by
  obtain ⟨fuel, hd⟩ := hd
  obtain ⟨a, h1, h2, h3⟩ := h fuel H enc w _ d ps hd hps
  exact ⟨a, top_one hv (hf a) h1, h2, h3⟩
theorem arg_agg {P : Program} {t : TypeId} {α : Type} {g : α → List V} {ok : α → Prop} {sz : α → Nat} (h : ∀ n, Reads P t (fun a => .agg (g a)) ok sz n) {H : Type} {enc : TypeId × Value → H} {w : World} {cs : Array Value} {d : DataW H} {ps : List MemPlace}
    (hd : DataW.Trod enc P w 0 (fun _ => true) true t (.agg cs) d ps) (hps : ∀ x ∈ ps, x.block < w.heap.size) : ∃ a, Pr w (fun b => b < w.heap.size) (.agg cs) (.agg (g a)) ∧ ok a ∧ sz a ≤ Rows.uptoBulk d := by
  obtain ⟨fuel, hd⟩ := hd
  obtain ⟨a, h1, h2, h3⟩ := h fuel H enc w _ d ps hd hps
  exact ⟨a, top_agg h1, h2, h3⟩
end Go.Proofs.YtbdogoccjcifnaaDoor
