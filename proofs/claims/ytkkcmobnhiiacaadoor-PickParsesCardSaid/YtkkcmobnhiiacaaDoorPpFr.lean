/- The card PickParses: every input. No conditions. -/
import Derived.Test.YtkkcmobnhiiacaaDoorLaw
import Derived.Test.YtkkcmobnhiiacaaDoorTie
import Derived.Deep.DeepHandedRow
import Derived.Lay
import Derived.SevenTiedAt
import Derived.LaidSub
import Derived.Test.YtkkcmobnhiiacaaDoorSeqM
import Derived.Test.YtkkcmobnhiiacaaDoorCards
/-! Strings as they are read, within the reach. No conditions. -/
/-! How arguments that read as data stand for abstract values, where each weight is within the reach. Printed by gen_readw.py from Read. No conditions. -/
set_option linter.unusedSimpArgs false
set_option linter.unusedVariables false
set_option maxRecDepth 100000
namespace Go.Proofs.YtkkcmobnhiiacaaDoor
open Go.RowKit Go.WideShapes

/-- What reads as a t (with so much fuel) is some a's value; a is good, and no bulkier than what was read. -/
def ReadsW (P : Program) (t : TypeId) {α : Type} (f : α → V) (ok : α → Prop) (sz : α → Nat) (n : Nat) : Prop :=
  ∀ (H : Type) (enc : TypeId × Value → H) (w : World) (cs : List Value) (d : DataW H) (ps : List MemPlace), DataW.trod enc P w 0 (fun _ => true) true n t cs = some (d, ps) → (∀ x ∈ ps, x.block < w.heap.size) → (∀ x ∈ DataW.weights P t d, x ≤ reachBytes) →
    ∃ a : α, CellsAre w cs (f a) ∧ ok a ∧ sz a ≤ Rows.uptoBulk d

theorem ReadsW.zero {P : Program} {t : TypeId} {α : Type} {f : α → V} {ok : α → Prop} {sz : α → Nat} : ReadsW P t f ok sz 0 := by
  intro H enc w cs d ps h
  simp [DataW.trod] at h

theorem weightsAll_mem {H : Type} {P : Program} {e : TypeId} {y : DataW H} {x : Nat} (hx : x ∈ DataW.weights P e y) : ∀ {ds : List (DataW H)}, y ∈ ds → x ∈ DataW.weightsAll P e ds
  | [], h => by simp at h
  | d :: ds, h => by
    simp only [DataW.weightsAll, List.mem_append]
    rcases List.mem_cons.1 h with rfl | h
    · exact .inl hx
    · exact .inr (weightsAll_mem hx h)
theorem reached_head {P : Program} {t : TypeId} {ts : List TypeId} {H : Type} {d : DataW H} {ds : List (DataW H)} (h : Reached P (t :: ts) H (d :: ds)) : ∀ x ∈ DataW.weights P t d, x ≤ reachBytes := by
  intro x hx
  unfold Reached at h
  rw [List.all_eq_true] at h
  exact of_decide_eq_true (h x (by simp only [DataW.weightsEach]; exact List.mem_append.2 (.inl hx)))
theorem reached_tail {P : Program} {t : TypeId} {ts : List TypeId} {H : Type} {d : DataW H} {ds : List (DataW H)} (h : Reached P (t :: ts) H (d :: ds)) : Reached P ts H ds := by
  unfold Reached at h ⊢
  rw [List.all_eq_true] at h ⊢
  exact fun x hx => h x (by simp only [DataW.weightsEach]; exact List.mem_append.2 (.inr hx))
theorem reads_bool_w {P : Program} {t : TypeId} (ht : P.underlying t = some .bool) (n : Nat) : ReadsW P t V.bool (fun _ => True) (fun _ => 1) n := by
  cases n with
  | zero => exact ReadsW.zero
  | succ n =>
    intro H enc w cs d ps h hps hW
    have hc : ∃ b, cs = [.bool b] ∧ d = .lit (.bool b) := by
      cases cs with
      | nil => simp [DataW.trod, ht] at h
      | cons v r => cases r with
        | nil => cases v <;> simp [DataW.trod, ht] at h <;> exact ⟨_, rfl, h.1.symm⟩
        | cons v' r => cases v <;> simp [DataW.trod, ht] at h
    obtain ⟨b, rfl, rfl⟩ := hc
    exact ⟨b, ⟨rfl, fun u hu => by simp at hu; subst hu; rfl, fun j u c hu hc => by
      cases j with
      | zero => simp [V.cells] at hu hc; subst hu; subst hc; exact .bool b
      | succ j => simp at hu⟩, trivial, by simp [Rows.uptoBulk]⟩

theorem reads_int_w {P : Program} {t : TypeId} {k : IntKind} (ht : P.underlying t = some (.int k)) (n : Nat) : ReadsW P t (V.int k) (fun m => k.min ≤ m ∧ m ≤ k.max) (fun _ => 1) n := by
  cases n with
  | zero => exact ReadsW.zero
  | succ n =>
    intro H enc w cs d ps h hps hW
    have hc : ∃ m, cs = [.int k m] ∧ d = .lit (.int k m) ∧ (Lit.int k m).wf = true := by
      cases cs with
      | nil => simp [DataW.trod, ht] at h
      | cons v r => cases r with
        | nil => cases v <;> simp [DataW.trod, ht] at h <;> (obtain ⟨⟨rfl, hw⟩, rfl, _⟩ := h; exact ⟨_, rfl, rfl, hw⟩)
        | cons v' r => cases v <;> simp [DataW.trod, ht] at h
    obtain ⟨m, rfl, rfl, hw⟩ := hc
    refine ⟨m, ⟨rfl, fun u hu => by simp at hu; subst hu; rfl, fun j u c hu hc => by
      cases j with
      | zero => simp [V.cells] at hu hc; subst hu; subst hc; exact .int k m
      | succ j => simp at hu⟩, by simpa [Lit.wf] using hw, by simp [Rows.uptoBulk]⟩

theorem reads_str_w {P : Program} {t : TypeId} (ht : P.underlying t = some .string) (n : Nat) : ReadsW P t V.str (fun s => s.length ≤ maxLen) (fun s => s.length + 1) n := by
  cases n with
  | zero => exact ReadsW.zero
  | succ n =>
    intro H enc w cs d ps h hps hW
    have hc : ∃ s : ByteArray, cs = [.string s] ∧ d = .lit (.string s.data.toList) ∧ s.size ≤ maxLen := by
      cases cs with
      | nil => simp [DataW.trod, ht] at h
      | cons v r => cases r with
        | nil => cases v <;> simp [DataW.trod, ht] at h <;> (obtain ⟨hw, rfl, _⟩ := h; exact ⟨_, rfl, rfl, hw⟩)
        | cons v' r => cases v <;> simp [DataW.trod, ht] at h
    obtain ⟨s, rfl, rfl, hs⟩ := hc
    exact ⟨s.data.toList, ⟨rfl, fun u hu => by simp at hu; subst hu; rfl, fun j u c hu hc => by
      cases j with
      | zero => simp [V.cells] at hu hc; subst hu; subst hc; exact .str s hs
      | succ j => simp at hu⟩, hs, by simp [Rows.uptoBulk]⟩

theorem reads_slice_w {P : Program} {t e : TypeId} {α : Type} {f : α → V} {ok : α → Prop} {sz : α → Nat} {n z : Nat} (ht : P.underlying t = some (.slice e)) (hz : P.cellsOf e = z) (hf : ∀ a, (f a).cells.length = z) (hz0 : z ≠ 0) (h : ReadsW P e f ok sz n) :
    ReadsW P t (fun l : List α => .lst (l.map f)) (fun l => l.length * P.bytesOf e ≤ reachBytes ∧ ∀ a ∈ l, ok a) (fun l => (l.map sz).sum + 1) (n + 1) := by
  intro H enc w cs d ps hd hps hW
  have hc : (cs = [.slice none 0 0] ∧ d = .nil) ∨ ∃ (a : Addr) (len cap : Nat) (elems rest : List (DataW H × List MemPlace)), cs = [.slice (some a) len cap] ∧ len ≤ cap ∧ cap ≤ maxLen ∧
      (List.range len).mapM (fun i => (w.cells? 0 (a.add (i * z)) z).bind (DataW.trod enc P w 0 (fun _ => true) true n e)) = some elems ∧ d = .slice (elems.map (·.1)) (rest.map (·.1)) ∧ ps = MemPlace.row a ((elems.length + rest.length) * z) ++ (elems ++ rest).flatMap (·.2) := by
    cases cs with
    | nil => simp [DataW.trod, ht] at hd
    | cons v r => cases r with
      | cons v' r => cases v <;> simp [DataW.trod, ht] at hd
      | nil =>
        cases v with
        | slice a len cap =>
          cases a with
          | none =>
            cases len with
            | zero => cases cap with
              | zero => simp [DataW.trod, ht] at hd; exact .inl ⟨rfl, hd.1.symm⟩
              | succ c => simp [DataW.trod, ht] at hd
            | succ l => simp [DataW.trod, ht] at hd
          | some a =>
            right
            simp only [DataW.trod, ht, hz] at hd
            split at hd
            · rename_i hc
              cases hel : (List.range len).mapM (fun i => (w.cells? 0 (a.add (i * z)) z).bind (DataW.trod enc P w 0 (fun _ => true) true n e)) with
              | none => simp [hel] at hd
              | some elems =>
                simp only [hel, Option.bind_some, if_true] at hd
                cases hre : (List.range (cap - len)).mapM (fun j => (w.cells? 0 (a.add ((len + j) * z)) z).bind (DataW.trod enc P w 0 (fun _ => true) true n e)) with
                | none => simp [hre] at hd
                | some rest =>
                  simp only [hre, Option.map_some, Option.some.injEq, Prod.mk.injEq] at hd
                  exact ⟨a, len, cap, elems, rest, rfl, hc.2.1, hc.2.2, hel, hd.1.symm, hd.2.symm⟩
            · cases hd
        | _ => simp [DataW.trod, ht] at hd
  rcases hc with ⟨rfl, rfl⟩ | ⟨a, len, cap, elems, rest, rfl, hlc, hcm, hel, rfl, rfl⟩
  · exact ⟨[], ⟨rfl, fun u hu => by simp at hu; subst hu; rfl, fun j u c hu hc => by
      cases j with
      | zero => simp [V.cells] at hu hc; subst hu; subst hc; exact .lnil none 0
      | succ j => simp at hu⟩, ⟨by simp, by simp⟩, by simp [Rows.uptoBulk]⟩
  · obtain ⟨hl, hi⟩ := mapM_some hel
    simp only [List.length_range] at hl
    simp only [DataW.weights, ht] at hW
    have hW1 : (elems.length + rest.length) * P.bytesOf e ≤ reachBytes := by
      have := hW _ (List.mem_cons_self ..)
      simpa using this
    have hW2 : ∀ y ∈ elems, ∀ x ∈ DataW.weights P e y.1, x ≤ reachBytes := fun y hy x hx => hW x (List.mem_cons_of_mem _ (List.mem_append.2 (.inl (weightsAll_mem hx (List.mem_map.2 ⟨y, hy, rfl⟩)))))
    have each : ∀ i : Fin len, ∃ x : α × List Value, w.cells? 0 (a.add (i * z)) z = some x.2 ∧ CellsAre w x.2 (f x.1) ∧ ok x.1 ∧ ∀ y, elems[i.val]? = some y → sz x.1 ≤ Rows.uptoBulk y.1 := by
      intro i
      obtain ⟨y, hy, hyi⟩ := hi i.val i.val (by simp)
      cases hcs : w.cells? 0 (a.add (i * z)) z with
      | none => simp [hcs] at hy
      | some vs =>
        simp only [hcs, Option.bind_some] at hy
        obtain ⟨x, h1, h2, h3⟩ := h H enc w vs y.1 y.2 hy (fun p hp => hps p (by
          simp only [List.mem_append, List.mem_flatMap]
          right
          exact ⟨y, .inl (List.mem_of_getElem? hyi), hp⟩)) (hW2 y (List.mem_of_getElem? hyi))
        refine ⟨(x, vs), rfl, h1, h2, fun y' hy' => ?_⟩
        rw [hyi] at hy'
        simp only [Option.some.injEq] at hy'
        subst hy'
        exact h3
    obtain ⟨g, hg⟩ := Classical.axiomOfChoice each
    have hget : ∀ i (hi : i < len), (List.ofFn fun i => (g i).1)[i]? = some (g ⟨i, hi⟩).1 := by
      intro i hi
      rw [List.getElem?_ofFn, dif_pos hi]
    refine ⟨List.ofFn fun i => (g i).1, ⟨rfl, fun u hu => by simp at hu; subst hu; rfl, fun j u c hu hc => ?_⟩, ⟨by simp only [List.length_ofFn]; rw [← hl]; exact Nat.le_trans (Nat.mul_le_mul_right _ (Nat.le_add_right _ _)) hW1, fun x hx => ?_⟩, ?_⟩
    · cases j with
      | succ j => simp at hu
      | zero =>
        simp [V.cells] at hu hc
        subst hu; subst hc
        by_cases h0 : len = 0
        · subst h0
          simp only [List.ofFn_zero, List.map_nil]
          exact .lnil _ _
        · have hcell : ∀ (i : Fin len) (j : Nat) (u : Value), (g i).2[j]? = some u → j < z ∧ w.cell? (((a.add (i * z))).add j) = some u := by
            intro i j u hu
            have hc := (hg i).1
            unfold World.cells? at hc
            rw [if_pos (Nat.zero_le _)] at hc
            obtain ⟨h1, h2⟩ := mapM_some hc
            simp only [List.length_range] at h1
            have hj : j < z := by rw [← h1]; exact (List.getElem?_eq_some_iff.1 hu).1
            obtain ⟨u', hu', hu2⟩ := h2 j j (by simp [hj])
            rw [hu] at hu2
            simp only [Option.some.injEq] at hu2
            subst hu2
            exact ⟨hj, hu'⟩
          obtain ⟨b, off, spot⟩ := a
          -- the row's places are plain
          · have hlen2 : ∀ i : Fin len, (g i).2.length = z := fun i => by rw [(hg i).2.1.1, hf]
            have hspot : spot = none := by
              have h1 : 0 < (g ⟨0, by omega⟩).2.length := by rw [hlen2]; omega
              have h2 := (hcell ⟨0, by omega⟩ 0 _ (List.getElem?_eq_getElem h1)).2
              simpa [Addr.add] using World.cell?_spot h2
            subst hspot
            let u : Nat → Nat → Value := fun i j => if hi : i < len then (g ⟨i, hi⟩).2.getD j (.bool true) else .bool true
            have := Pr.lst (w := w) (I := fun b => b < w.heap.size) b off cap z ((List.ofFn fun i => (g i).1).map f) u (by
                have := hps (.cell b off) (by
                  simp only [List.mem_append]
                  left
                  exact MemPlace.mem_row.2 ⟨0, Nat.mul_pos (by omega) (by omega), by simp⟩)
                exact this) (by simp; omega) hcm (by
                intro i x hx
                simp only [List.getElem?_map, Option.map_eq_some_iff] at hx
                obtain ⟨y, _, rfl⟩ := hx
                exact hf y) (by
                intro i j hi hj
                simp only [List.length_map, List.length_ofFn] at hi
                have hj' : j < (g ⟨i, hi⟩).2.length := by rw [hlen2]; exact hj
                have := (hcell ⟨i, hi⟩ j _ (List.getElem?_eq_getElem hj')).2
                rw [Addr.add_lit, Addr.add_lit] at this
                rw [this]
                simp only [u, dif_pos hi]
                simp [List.getD, List.getElem?_eq_getElem hj']) (by
                intro i j
                simp only [u]
                split
                · rename_i hi
                  by_cases hj : j < (g ⟨i, hi⟩).2.length
                  · simp only [List.getD, List.getElem?_eq_getElem hj, Option.getD_some]
                    exact (hg ⟨i, hi⟩).2.1.2.1 _ (List.getElem_mem hj)
                  · simp only [List.getD, List.getElem?_eq_none (Nat.le_of_not_lt hj), Option.getD_none]
                    rfl
                · rfl) (by
                intro i x j c hx hc
                simp only [List.getElem?_map, Option.map_eq_some_iff] at hx
                obtain ⟨y, hy, rfl⟩ := hx
                have hi : i < len := by
                  have := (List.getElem?_eq_some_iff.1 hy).1
                  simpa using this
                rw [hget i hi] at hy
                simp only [Option.some.injEq] at hy
                subst hy
                have hj : j < (g ⟨i, hi⟩).2.length := by rw [(hg ⟨i, hi⟩).2.1.1]; exact (List.getElem?_eq_some_iff.1 hc).1
                simp only [u, dif_pos hi]
                simp only [List.getD, List.getElem?_eq_getElem hj, Option.getD_some]
                exact (hg ⟨i, hi⟩).2.1.2.2 j _ c (List.getElem?_eq_getElem hj) hc)
            simpa using this
    · simp only [List.mem_ofFn] at hx
      obtain ⟨i, rfl⟩ := hx
      exact (hg i).2.2.1
    · simp only [Rows.uptoBulk]
      have := bulk_sum (H := H) sz (List.ofFn fun i => (g i).1) (elems.map (·.1)) (by simp [hl]) (by
        intro i x d hx hd
        have hi : i < len := by
          have := (List.getElem?_eq_some_iff.1 hx).1
          simpa using this
        rw [hget i hi] at hx
        simp only [Option.some.injEq] at hx
        subst hx
        simp only [List.getElem?_map, Option.map_eq_some_iff] at hd
        obtain ⟨y, hy, rfl⟩ := hd
        exact (hg ⟨i, hi⟩).2.2.2 y hy)
      omega

/-- The fields of a struct, from cell o on. -/
def ReadsFsW (P : Program) (o : Nat) (fs : List Field) {α : Type} (g : α → List V) (ok : α → Prop) (sz : α → Nat) (n : Nat) : Prop :=
  ∀ (H : Type) (enc : TypeId × Value → H) (w : World) (cs : List Value) (xs : List (DataW H × List MemPlace)), fs.mapM (fun f => DataW.trod enc P w 0 (fun _ => true) true n f.type ((cs.drop f.offset).take (P.cellsOf f.type))) = some xs →
    (∀ x ∈ xs, ∀ p ∈ x.2, p.block < w.heap.size) → (∀ x ∈ DataW.weightsEach P (fs.map (·.type)) (xs.map (·.1)), x ≤ reachBytes) → ∃ a : α, CellsAre w ((cs.drop o).take (g a).length) (.agg (g a)) ∧ ok a ∧ sz a ≤ Rows.uptoBulkAll (xs.map (·.1))

theorem reads_fs_nil_w {P : Program} {o n : Nat} : ReadsFsW P o [] (fun _ : Unit => []) (fun _ => True) (fun _ => 0) n := by
  intro H enc w cs xs h _ _
  exact ⟨(), ⟨by simp [V.cells], by simp, by simp [V.cells]⟩, trivial, Nat.zero_le _⟩

theorem reads_fs_cons_w {P : Program} {o n z : Nat} {fd : Field} {fs : List Field} {α β : Type} {f : α → V} {g : β → List V} {ok : α → Prop} {ok' : β → Prop} {sz : α → Nat} {sz' : β → Nat} (hoff : fd.offset = o) (hz : P.cellsOf fd.type = z) (hf : ∀ a, (f a).cells.length = z)
    (h : ReadsW P fd.type f ok sz n) (k : ReadsFsW P (o + z) fs g ok' sz' n) : ReadsFsW P o (fd :: fs) (fun x : α × β => (f x.1).cells ++ g x.2) (fun x => ok x.1 ∧ ok' x.2) (fun x => sz x.1 + sz' x.2) n := by
  intro H enc w cs xs hx hps hW
  simp only [List.mapM_cons] at hx
  cases hy : DataW.trod enc P w 0 (fun _ => true) true n fd.type ((cs.drop fd.offset).take (P.cellsOf fd.type)) with
  | none => simp [hy] at hx
  | some y =>
    cases hys : fs.mapM (fun f => DataW.trod enc P w 0 (fun _ => true) true n f.type ((cs.drop f.offset).take (P.cellsOf f.type))) with
    | none => simp [hy, hys] at hx
    | some ys =>
      simp [hy, hys] at hx
      subst hx
      rw [hoff, hz] at hy
      obtain ⟨a, h1, h2, h3⟩ := h H enc w _ y.1 y.2 hy (fun p hp => hps y (by simp) p hp) (fun x hx => hW x (by simp only [List.map_cons, DataW.weightsEach]; exact List.mem_append.2 (.inl hx)))
      obtain ⟨b, k1, k2, k3⟩ := k H enc w cs ys hys (fun x hx => hps x (by simp [hx])) (fun x hx => hW x (by simp only [List.map_cons, DataW.weightsEach]; exact List.mem_append.2 (.inr hx)))
      refine ⟨(a, b), ?_, ⟨h2, k2⟩, by simp [Rows.uptoBulkAll]; omega⟩
      have e1 : (cs.drop o).take ((f a).cells ++ g b).length = (cs.drop o).take z ++ (cs.drop (o + z)).take (g b).length := by
        rw [List.length_append, hf a, List.take_add, List.drop_drop]
      simp only
      rw [e1]
      have l1 : ((cs.drop o).take z).length = z := by rw [h1.1, hf]
      refine ⟨by rw [List.length_append, h1.1, k1.1]; simp [V.cells], fun u hu => ?_, fun j u c hu hc => ?_⟩
      · rw [List.mem_append] at hu
        exact hu.elim (h1.2.1 u) (k1.2.1 u)
      · have hc : ((f a).cells ++ g b)[j]? = some c := hc
        rw [List.getElem?_append] at hu hc
        rw [l1] at hu
        rw [hf a] at hc
        split at hu
        · rename_i hj; rw [if_pos hj] at hc; exact h1.2.2 j u c hu hc
        · rename_i hj; rw [if_neg hj] at hc; exact k1.2.2 _ u c hu hc

theorem reads_struct_w {P : Program} {t : TypeId} {fs : List Field} {α : Type} {g : α → List V} {ok : α → Prop} {sz : α → Nat} {n L : Nat} (ht : P.underlying t = some (.struct fs.toArray)) (hL : P.cellsOf t = L) (hg : ∀ a, (g a).length = L) (h : ReadsFsW P 0 fs g ok sz n) :
    ReadsW P t (fun a => .agg (g a)) ok (fun a => sz a + 1) (n + 1) := by
  intro H enc w cs d ps hd hps hW
  have hc : cs.length = L ∧ ∃ xs, fs.mapM (fun f => DataW.trod enc P w 0 (fun _ => true) true n f.type ((cs.drop f.offset).take (P.cellsOf f.type))) = some xs ∧ d = .agg (xs.map (·.1)) ∧ ps = xs.flatMap (·.2) := by
    have : DataW.trod enc P w 0 (fun _ => true) true (n + 1) t cs = if cs.length = P.cellsOf t then (fs.toArray.toList.mapM fun f => DataW.trod enc P w 0 (fun _ => true) true n f.type ((cs.drop f.offset).take (P.cellsOf f.type))).map fun xs => (.agg (xs.map (·.1)), xs.flatMap (·.2)) else none := by
      simp only [DataW.trod, ht]
    rw [this, hL] at hd
    split at hd
    · rename_i hl
      simp only [Option.map_eq_some_iff] at hd
      obtain ⟨xs, h1, h2⟩ := hd
      simp only [Prod.mk.injEq] at h2
      exact ⟨hl, xs, h1, h2.1.symm, h2.2.symm⟩
    · cases hd
  obtain ⟨hl, xs, hxs, rfl, rfl⟩ := hc
  obtain ⟨a, h1, h2, h3⟩ := h H enc w cs xs hxs (fun x hx p hp => hps p (List.mem_flatMap.2 ⟨x, hx, hp⟩)) (fun x hx => hW x (by simp only [DataW.weights, ht]; simpa using hx))
  refine ⟨a, ?_, h2, by simp only [Rows.uptoBulk]; omega⟩
  rw [List.drop_zero, hg a, ← hl, List.take_length] at h1
  exact h1

/-- The same under other names. -/
theorem ReadsW.as {P : Program} {t : TypeId} {α β : Type} {f : α → V} {f' : β → V} {ok : α → Prop} {ok' : β → Prop} {sz : α → Nat} {sz' : β → Nat} {n : Nat} (h : ReadsW P t f ok sz n) (to : α → β) (h1 : ∀ a, f' (to a) = f a) (h2 : ∀ a, ok a → ok' (to a)) (h3 : ∀ a, sz' (to a) ≤ sz a) :
    ReadsW P t f' ok' sz' n := by
  intro H enc w cs d ps hd hps hW
  obtain ⟨a, g1, g2, g3⟩ := h H enc w cs d ps hd hps hW
  exact ⟨to a, by rw [h1]; exact g1, h2 a g2, Nat.le_trans (h3 a) g3⟩

/-- An argument of a type that is no struct and no array. -/
theorem arg_one_w {P : Program} {t : TypeId} {α : Type} {f : α → V} {ok : α → Prop} {sz : α → Nat} (h : ∀ n, ReadsW P t f ok sz n) (hf : ∀ a, (f a).cells = [f a]) {H : Type} {enc : TypeId × Value → H} {w : World} {v : Value} {d : DataW H} {ps : List MemPlace} (hv : v.cells = #[v])
    (hd : DataW.Trod enc P w 0 (fun _ => true) true t v d ps) (hps : ∀ x ∈ ps, x.block < w.heap.size) (hW : ∀ x ∈ DataW.weights P t d, x ≤ reachBytes) : ∃ a, Pr w (fun b => b < w.heap.size) v (f a) ∧ ok a ∧ sz a ≤ Rows.uptoBulk d := by
  obtain ⟨fuel, hd⟩ := hd
  obtain ⟨a, h1, h2, h3⟩ := h fuel H enc w _ d ps hd hps hW
  exact ⟨a, top_one hv (hf a) h1, h2, h3⟩
theorem arg_agg_w {P : Program} {t : TypeId} {α : Type} {g : α → List V} {ok : α → Prop} {sz : α → Nat} (h : ∀ n, ReadsW P t (fun a => .agg (g a)) ok sz n) {H : Type} {enc : TypeId × Value → H} {w : World} {cs : Array Value} {d : DataW H} {ps : List MemPlace}
    (hd : DataW.Trod enc P w 0 (fun _ => true) true t (.agg cs) d ps) (hps : ∀ x ∈ ps, x.block < w.heap.size) (hW : ∀ x ∈ DataW.weights P t d, x ≤ reachBytes) : ∃ a, Pr w (fun b => b < w.heap.size) (.agg cs) (.agg (g a)) ∧ ok a ∧ sz a ≤ Rows.uptoBulk d := by
  obtain ⟨fuel, hd⟩ := hd
  obtain ⟨a, h1, h2, h3⟩ := h fuel H enc w _ d ps hd hps hW
  exact ⟨a, top_agg h1, h2, h3⟩
/-- One argument more. -/
theorem arg1_w {H : Type} {enc : TypeId × Value → H} {P : Program} {W : World} {base : Nat} {t : TypeId} {ts : List TypeId} {args : List Value} {ds : List (DataW H)} {ps : List MemPlace}
    (hval : ∀ (j : Nat) t' v, (t :: ts)[j]? = some t' → args[j]? = some v → Value.okWide P W .any base t' v)
    (h : DataW.TrodAll enc P W 0 (fun _ => true) true (t :: ts) args ds ps) (hlt : ∀ x ∈ ps, x.block < W.heap.size) (hok : Reached P (t :: ts) H ds) {α : Type} {f : α → V} {ok : α → Prop} {sz : α → Nat} (hr : ∀ n, ReadsW P t f ok sz n)
    (hf : (∀ a, (f a).cells = [f a]) ∧ (match P.underlying t with | some (.slice _) => true | some .string => true | some (.int _) => true | some .bool => true | some (.pointer _) => true | _ => false) = true) :
    ∃ a v vs d ds' q, args = v :: vs ∧ ds = d :: ds' ∧ Reached P ts H ds' ∧ Pr W (fun b => b < W.heap.size) v (f a) ∧ ok a ∧ sz a ≤ Rows.uptoBulk d ∧ DataW.TrodAll enc P W 0 (fun _ => true) true ts vs ds' q ∧ (∀ x ∈ q, x.block < W.heap.size) ∧
      (∀ (j : Nat) t' v, ts[j]? = some t' → vs[j]? = some v → Value.okWide P W .any base t' v) := by
  cases args with
  | nil => cases ds <;> simp [DataW.TrodAll] at h
  | cons v vs =>
    cases ds with
    | nil => simp [DataW.TrodAll] at h
    | cons d ds =>
      obtain ⟨p, q, h1, h2, rfl⟩ := h
      obtain ⟨a, k1, k2, k3⟩ := arg_one_w hr hf.1 (okWide_one hf.2 (hval 0 t v rfl rfl)) h1 (fun x hx => hlt x (by simp [hx])) (reached_head hok)
      exact ⟨a, v, vs, d, ds, q, rfl, rfl, reached_tail hok, k1, k2, k3, h2, fun x hx => hlt x (by simp [hx]), fun j t' v h1 h2 => hval (j + 1) t' v (by simpa using h1) (by simpa using h2)⟩
theorem argS_w {H : Type} {enc : TypeId × Value → H} {P : Program} {W : World} {base : Nat} {t : TypeId} {ts : List TypeId} {args : List Value} {ds : List (DataW H)} {ps : List MemPlace}
    (hval : ∀ (j : Nat) t' v, (t :: ts)[j]? = some t' → args[j]? = some v → Value.okWide P W .any base t' v)
    (h : DataW.TrodAll enc P W 0 (fun _ => true) true (t :: ts) args ds ps) (hlt : ∀ x ∈ ps, x.block < W.heap.size) (hok : Reached P (t :: ts) H ds) {α : Type} {g : α → List V} {ok : α → Prop} {sz : α → Nat} (hr : ∀ n, ReadsW P t (fun a => .agg (g a)) ok sz n)
    (hf : (match P.underlying t with | some (.struct _) => true | _ => false) = true) :
    ∃ a v vs d ds' q, args = v :: vs ∧ ds = d :: ds' ∧ Reached P ts H ds' ∧ Pr W (fun b => b < W.heap.size) v (.agg (g a)) ∧ ok a ∧ sz a ≤ Rows.uptoBulk d ∧ DataW.TrodAll enc P W 0 (fun _ => true) true ts vs ds' q ∧ (∀ x ∈ q, x.block < W.heap.size) ∧
      (∀ (j : Nat) t' v, ts[j]? = some t' → vs[j]? = some v → Value.okWide P W .any base t' v) := by
  cases args with
  | nil => cases ds <;> simp [DataW.TrodAll] at h
  | cons v vs =>
    cases ds with
    | nil => simp [DataW.TrodAll] at h
    | cons d ds =>
      obtain ⟨p, q, h1, h2, rfl⟩ := h
      obtain ⟨fs, hf⟩ : ∃ fs, P.underlying t = some (.struct fs) := by
        split at hf
        · exact ⟨_, ‹_›⟩
        · cases hf
      obtain ⟨cs, rfl, _⟩ := okWide_struct hf (hval 0 t v rfl rfl)
      obtain ⟨a, k1, k2, k3⟩ := arg_agg_w hr h1 (fun x hx => hlt x (by simp [hx])) (reached_head hok)
      exact ⟨a, _, vs, d, ds, q, rfl, rfl, reached_tail hok, k1, k2, k3, h2, fun x hx => hlt x (by simp [hx]), fun j t' v h1 h2 => hval (j + 1) t' v (by simpa using h1) (by simpa using h2)⟩
end Go.Proofs.YtkkcmobnhiiacaaDoor

/-! Strings as they are read, within the reach. No conditions. -/
namespace Go.Proofs.YtkkcmobnhiiacaaDoor
open Go.RowKit Go.WideShapes

theorem reads_str_s {P : Program} {t : TypeId} (ht : P.underlying t = some .string) (n : Nat) : ReadsW P t V.str (fun s => s.length ≤ 140737488351232) (fun s => s.length + 1) n := by
  cases n with
  | zero => exact ReadsW.zero
  | succ n =>
    intro H enc w cs d ps h hps hW
    have hc : ∃ s : ByteArray, cs = [.string s] ∧ d = .lit (.string s.data.toList) ∧ s.size ≤ maxLen := by
      cases cs with
      | nil => simp [DataW.trod, ht] at h
      | cons v r => cases r with
        | nil => cases v <;> simp [DataW.trod, ht] at h <;> (obtain ⟨hw, rfl, _⟩ := h; exact ⟨_, rfl, rfl, hw⟩)
        | cons v' r => cases v <;> simp [DataW.trod, ht] at h
    obtain ⟨s, rfl, rfl, hs⟩ := hc
    have hr : s.data.toList.length ≤ reachBytes := hW _ (by simp [DataW.weights])
    exact ⟨s.data.toList, ⟨rfl, fun u hu => by simp at hu; subst hu; rfl, fun j u c hu hc => by
      cases j with
      | zero => simp [V.cells] at hu hc; subst hu; subst hc; exact .str s hs
      | succ j => simp at hu⟩, hr, by simp [Rows.uptoBulk]⟩
end Go.Proofs.YtkkcmobnhiiacaaDoor

/-! The frame of a law whose row lists package-level variables with their content: from a contract in such worlds to the given statement. No conditions. -/
namespace Go.Proofs.YtkkcmobnhiiacaaDoor
open Go.ChangeShapes Go.WideShapes Go.ChangeAt Go.RowKit

/-- The core that a law owes, in worlds of G. -/
def LawCoreG (G : World → Prop) (f : FuncId) (ts : List TypeId) (ok : (H : Type) → List (DataW H) → Prop) : Prop :=
  ∀ (H : Type) (enc : TypeId × Value → H) (W : World) (base : Nat) (args : Array Value) (ds : List (DataW H)) (ps : List MemPlace), G W → (∀ (j : Nat) t v, ts[j]? = some t → args[j]? = some v → Value.okWide Tryd.prog W .any base t v) →
    DataW.TrodAll enc Tryd.prog W 0 (fun _ => true) true ts args.toList ds ps →
    (∀ x ∈ ps, x.block < W.heap.size) → ok H ds → Calls Tryd.prog f args W fun e W' => e = .returned (.bool true) ∧ Below W.heap.size W W'

theorem coreG_of {G : World → Prop} {f : FuncId} {ts : List TypeId} {ok : (H : Type) → List (DataW H) → Prop}
    (h : ∀ (H : Type) (enc : TypeId × Value → H) (W : World) (base : Nat) (args : List Value) (ds : List (DataW H)) (ps : List MemPlace), (∀ (j : Nat) t v, ts[j]? = some t → args[j]? = some v → Value.okWide Tryd.prog W .any base t v) →
      DataW.TrodAll enc Tryd.prog W 0 (fun _ => true) true ts args ds ps → (∀ x ∈ ps, x.block < W.heap.size) → ok H ds → ∃ xs, ArgsAre W args xs ∧ Fn1G Tryd.prog G f xs (fun r => r = .bool true)) : LawCoreG G f ts ok := by
  intro H enc W base args ds ps hG hval hA hlt hok
  obtain ⟨xs, hx, hf⟩ := h H enc W base args.toList ds ps (fun j t v h1 h2 => hval j t v h1 (by simpa using h2)) hA hlt hok
  have := hf W (fun b => b < W.heap.size) args.toList hG hx.1 hx.2 (fun _ h => h)
  rw [Array.toArray_toList] at this
  refine this.mono ?_
  rintro e W' ⟨v, r, I', rfl, rfl, hp, _, hk⟩
  refine ⟨?_, ⟨hk.os, hk.tape, hk.output, hk.size, fun k hlt => hk.block k hlt (fun h => h)⟩⟩
  cases hp
  rfl

theorem args_small {H : Type} {d : DataW H} (h : Rows.uptoSmall H [d] = true) : Rows.uptoBulk d ≤ 1048576 := by
  have := of_decide_eq_true h
  simpa [Rows.uptoBulkAll] using this

set_option maxRecDepth 100000 in
theorem frame_laid {os : Os} (started : os.Started) {H : Type} {enc : TypeId × Value → H} {f : FuncId} {fn : Func} {S : OpenSpec} {s : ChangeSpec} {laid : List (String × DataW Unit)} {G : World → Prop} {ok : (H : Type) → List (DataW H) → Prop}
    (noInit : Tryd.prog.inits.idxOf? f = none) (hfn : Tryd.prog.funcs[f]? = some fn)
    {bt : TypeId} (hbt : Tryd.prog.underlying bt = some .bool) (hres : fn.resultTypes = #[bt]) (hv : s.vars = []) (hr : fn.params.toList.all (fun t => Tryd.prog.readableRec t && decide (t < Tryd.prog.types.size)) = true)
    (hs : ∀ ds : List (DataW H), ds.length = fn.params.toList.length → s.fn H ds = { results := [.lit (.bool true)], args := ds }) (F : Stop.Interp)
    (hS : S.at F = s) (hSv : S.vars = s.vars) (hSb : S.bare.plain.varTypes Tryd.checked.prog = []) (hG : ∀ W, laidMetH Tryd.prog laid W → W.ShapedOpen Tryd.prog → G W)
    (hok : ∀ ds : List (DataW H), (∀ k, S.cond = some k → k H ds = true) → Reached Tryd.prog fn.params.toList H ds → ok H ds)
    (witness : ∃ (w : World) (tape : Tape) (i : Input), w.os = os ∧ (w.forCall tape i).Shaped Tryd.prog ∧ i.vars = [] ∧ Input.okWide Tryd.prog (w.forCall tape i) .any w.heap.size f i ∧
      S.preRow enc Tryd.prog fn [] false laid (w.forCall tape i).memory i.args ∧ Assume.holds {} Tryd.prog (lone (Frame.enter Tryd.prog f i.args .normal) [] (w.forCall tape i)))
    (core : LawCoreG G f fn.params.toList ok) :
    ReturnsInHanded {} Tryd.checked os f .any (S.preRow enc Tryd.prog fn [] false laid) ((S.at F).post enc Tryd.prog fn false true false false) := by
  refine returnsInHanded_of_row (C := Tryd.checked) (s := S) frame_own started noInit hfn witness ?_
  intro W base args ds gs before hval hW _ hk hsz hL hsh _
  have hW0 : DataW.Whole enc Tryd.prog fn.params.toList s.vars false W args.toList ds gs before := hSv ▸ hW
  have hW1 := hW0
  obtain ⟨p, q, hA, hV, rfl, _, _⟩ := hW1
  have hA' : DataW.TrodAll enc Tryd.prog W 0 (fun _ => true) true fn.params.toList args.toList ds p := hA
  obtain rfl := vars_nil hv (show DataW.TrodVars enc Tryd.prog W (fun _ => true) s.vars gs q from hV)
  have hsz' : Reached Tryd.prog fn.params.toList H ds := by
    rw [hSb] at hsz
    show (DataW.weightsEach Tryd.checked.prog fn.params.toList ds).all (· ≤ reachBytes) = true
    simpa only [List.append_nil] using hsz
  refine (core H enc W base args ds p (hG W hL hsh) (fun j t v h1 h2 => hval j t v (by simpa using h1) h2) hA' (fun x hx => hW0.lt x (by simp [hx])) (hok ds (fun k hk' => by simpa using hk k hk') hsz')).mono fun e W' ⟨he, hb⟩ => ?_
  subst he
  rw [hS]
  exact ⟨_, rfl, frame_post (s := s) frame_laidOut hr hbt hres hv hW0 (by rw [List.append_nil]; exact hs ds (whole_len _ _ _ _ hA')) hb⟩

/-! ### The two variables of the runes -/
def laidS : List (String × DataW Unit) := [("unicode/utf8.acceptRanges", Rows.laid_unicode_utf8_acceptRanges), ("unicode/utf8.first", Rows.laid_unicode_utf8_first)]
theorem shaped_laidS (os : Os) (args : Array Value) : ((World.laidAll Tryd.prog os laidS).forCall (fun _ _ => 0) ⟨#[], args, []⟩).Shaped Tryd.prog := World.shaped_of_ZipB (by kernel_rfl) (by kernel_rfl)
theorem met_laidS (os : Os) (args : Array Value) : laidMetH Tryd.prog laidS ((World.laidAll Tryd.prog os laidS).forCall (fun _ _ => 0) ⟨#[], args, []⟩).memory := laidMet_laidAll _ (by kernel_rfl) (by kernel_rfl)
theorem witness_laidS {os : Os} {H : Type} {enc : TypeId × Value → H} {f : FuncId} {fn : Func} {S : OpenSpec} (args : Array Value) (fuel : Nat)
    (hok : Input.okWideB Tryd.prog ((World.laidAll Tryd.prog os laidS).forCall (fun _ _ => 0) ⟨#[], args, []⟩) f ⟨#[], args, []⟩ = true)
    {x : List (DataW H) × List (DataW H) × List MemPlace} (hx : DataW.whole enc Tryd.prog ((World.laidAll Tryd.prog os laidS).forCall (fun _ _ => 0) ⟨#[], args, []⟩).memory fn.params.toList S.vars false args.toList fuel = some x)
    (hkk : ∀ k, S.cond = some k → k H (x.1 ++ x.2.1) = true) (hsz : S.bare.sizedB enc Tryd.prog fn false ((World.laidAll Tryd.prog os laidS).forCall (fun _ _ => 0) ⟨#[], args, []⟩).memory args fuel = true) :
    ∃ (w : World) (tape : Tape) (i : Input), w.os = os ∧ (w.forCall tape i).Shaped Tryd.prog ∧ i.vars = [] ∧ Input.okWide Tryd.prog (w.forCall tape i) .any w.heap.size f i ∧
      S.preRow enc Tryd.prog fn [] false laidS (w.forCall tape i).memory i.args ∧ Assume.holds {} Tryd.prog (lone (Frame.enter Tryd.prog f i.args .normal) [] (w.forCall tape i)) :=
  ⟨World.laidAll Tryd.prog os laidS, fun _ _ => 0, ⟨#[], args, []⟩, World.laidAll_os _ _ _, shaped_laidS os args, (Input.okWide_of_okWideB (base := 0) hok).1, (Input.okWide_of_okWideB hok).2,
    OpenSpec.preRow_of_cond fuel hx rfl hkk hsz (met_laidS os args), by
    simp only [Assume.holds]
    exact ⟨by simp, by simp, fun _ => Modest.zero, by simp, by simp⟩⟩
end Go.Proofs.YtkkcmobnhiiacaaDoor

/-! The card PickParses: every input. No conditions. -/
namespace Go.Proofs.YtkkcmobnhiiacaaDoor
open Go.ChangeShapes Go.WideShapes Go.ChangeAt Go.RowKit

theorem pickParses_core : LawCoreG GM 4 Tryd.f4.params.toList (Reached Tryd.prog Tryd.f4.params.toList) := by
  refine coreG_of fun H enc W base args ds ps hval hA hlt hok => ?_
  obtain ⟨a0, v0, vs0, d0, ds0, q0, rfl, rfl, hok0, hp0, hsz0, _, hA0, hlt0, hval0⟩ := arg1_w (t := 9) (ts := []) hval hA hlt hok (fun n => reads_str_s (by kernel_rfl) n) ⟨fun _ => rfl, by kernel_rfl⟩
  obtain ⟨rfl, rfl⟩ := arg0 hA0
  exact ⟨_, args_cons hp0 args_nil, pickParses_law a0 (by omega)⟩

theorem pickParses_row : Rows.PickParsesSaid :=
  OpenClaim.holds_of_cond 4 Tryd.f4 rfl rfl rfl rfl rfl rfl rfl ⟨rfl, rfl, rfl, rfl, rfl⟩ rfl rfl rfl rfl rfl (by kernel_rfl) Tryd.func4 (by kernel_rfl)
    (of_decide_eq_true (by kernel_rfl)) (by unfold Func.isWrapper; first | (rw [if_pos (by decide +kernel)]; kernel_rfl) | (rw [if_neg (by decide +kernel)]; exact ⟨rfl, rfl⟩))
    (fun os started H enc _ F => by
      rw [OpenClaim.pre_eq_preRow]
      exact frame_laid (S := OpenSpec.ofChange Rows.pickParsesSpec) (s := Rows.pickParsesSpec) (laid := laidS) started (by kernel_rfl) Tryd.func4 (bt := 4) (by kernel_rfl) rfl rfl (by kernel_rfl) (fun ds hd => by
        match ds, hd with
        | [_], _ => rfl) F rfl rfl rfl (fun W _ h => gm_of_shape W h) (fun ds _ h => h)
        (witness_laidS (enc := enc) (S := OpenSpec.ofChange Rows.pickParsesSpec) #[.string .empty] 8 (by kernel_rfl) (x := ([.lit (.string [])], [], [])) (by kernel_rfl) (fun k hk => by cases hk) (by kernel_rfl)) pickParses_core)

theorem pickParses_holds : Rows.PickParsesCardSaid :=
  Claim7.holds_tied_plain_at .later [] [.data, .pinned] true (true, "f24d742abbd1b27a4a3555e9c7ccbfc85169078dee953b58c416b4347601e7d9") false pickParses_row (fun _ h => by cases h) (by kernel_rfl) (fun _ h => by cases h) pickParses_row_tie rfl ⟨rfl, rfl⟩ (by kernel_rfl) rfl
    (fun f fn hf hfn => by
      obtain rfl : f = 4 := Option.some.inj ((show Tryd.prog.funcNamed "bobbinet/bobbinetlaw.PickParses" = some 4 by kernel_rfl).symm.trans hf) |>.symm
      obtain rfl : fn = Tryd.f4 := (Option.some.inj (Tryd.func4.symm.trans hfn)).symm
      exact ⟨by kernel_rfl, fun j t ht => by
        have hall : (Tryd.f4.params.toList.all fun u => !Tryd.prog.wantsStandIn u) = true := by kernel_rfl
        have hm : t ∈ Tryd.f4.params.toList := by simpa using Array.mem_of_getElem? ht
        exact (show Tryd.prog.wantsStandIn t = false by simpa using List.all_eq_true.1 hall t hm)⟩)
    (by kernel_rfl)
end Go.Proofs.YtkkcmobnhiiacaaDoor
