/- Attributes and nodes of a tree: as values, as they are read. No conditions. -/
import Derived.Test.YtbdogoccjcifnaaDoorLaw
set_option linter.unusedSimpArgs false
set_option linter.unusedVariables false
set_option maxRecDepth 100000
namespace Go.Proofs.YtbdogoccjcifnaaDoor
open Go.RowKit

/-! ### A nil slice is an empty slice -/
mutual
def V.nl : V → V
  | .nils => .lst []
  | .agg l => .agg (nlL l)
  | .tup l => .tup (nlL l)
  | .lst l => .lst (nlL l)
  | .rp l => .rp (nlL l)
  | .fn f l => .fn f (nlL l)
  | x => x
def nlL : List V → List V
  | [] => []
  | x :: l => x.nl :: nlL l
end
theorem nlL_length : ∀ l, (nlL l).length = l.length
  | [] => by simp [nlL]
  | x :: l => by simp [nlL, nlL_length l]
theorem nlL_get : ∀ (l : List V) (i : Nat) (c : V), (nlL l)[i]? = some c → ∃ x, l[i]? = some x ∧ c = x.nl
  | [], i, c, h => by simp [nlL] at h
  | x :: l, 0, c, h => by simp [nlL] at h; exact ⟨x, rfl, h.symm⟩
  | x :: l, i + 1, c, h => by
    simp only [nlL, List.getElem?_cons_succ] at h
    obtain ⟨y, hy, e⟩ := nlL_get l i c h
    exact ⟨y, by simpa using hy, e⟩
theorem nl_cells (x : V) : x.nl.cells = nlL x.cells := by cases x <;> simp [V.nl, V.cells, nlL]
theorem Pr.nl {w : World} {I : Nat → Prop} {v : Value} {x : V} (h : Pr w I v x) : Pr w I v x.nl := by
  induction h with
  | any v => exact .any v
  | bool b => exact .bool b
  | int k n => exact .int k n
  | str s h => exact .str s h
  | nils => simp only [V.nl]; exact .lnil none 0
  | lnil a cap => simp only [V.nl, nlL]; exact .lnil a cap
  | lst b off cap z l u h1 h2 h3 h4 h5 h6 h7 ih =>
    simp only [V.nl]
    rw [← nlL_length l]
    refine .lst b off cap z _ u h1 (by rw [nlL_length]; exact h2) h3 (fun i c hc => ?_) (fun i j hi hj => h5 i j (by rwa [nlL_length] at hi) hj) h6 (fun i c j d hc hd => ?_)
    · obtain ⟨y, hy, rfl⟩ := nlL_get l i c hc
      rw [nl_cells, nlL_length]
      exact h4 i y hy
    · obtain ⟨y, hy, rfl⟩ := nlL_get l i c hc
      rw [nl_cells] at hd
      obtain ⟨e, he, rfl⟩ := nlL_get _ j d hd
      exact ih i y j e hy he
  | agg vs l h1 h2 h3 ih =>
    simp only [V.nl]
    refine .agg vs _ (by rw [nlL_length, h1]) h2 (fun i v c hv hc => ?_)
    obtain ⟨x, hx, rfl⟩ := nlL_get l i c hc
    exact ih i v x hv hx
  | rp b off l u h1 h2 h3 h4 ih =>
    simp only [V.nl]
    refine .rp b off _ u h1 (fun j hj => h2 j (by rwa [nlL_length] at hj)) h3 (fun j c hc => ?_)
    obtain ⟨x, hx, rfl⟩ := nlL_get l j c hc
    exact ih j x hx
  | fn f vs l h1 h2 ih =>
    simp only [V.nl]
    refine .fn f vs _ (by rw [nlL_length, h1]) (fun i v c hv hc => ?_)
    obtain ⟨x, hx, rfl⟩ := nlL_get l i c hc
    exact ih i v x hv hx
  | tup vs l h1 h2 ih =>
    simp only [V.nl]
    refine .tup vs _ (by rw [nlL_length, h1]) (fun i v c hv hc => ?_)
    obtain ⟨x, hx, rfl⟩ := nlL_get l i c hc
    exact ih i v x hv hx
  | nilp => exact .nilp
  | nili => exact .nili
  | ifi t k n => exact .ifi t k n
  | ifx t v => exact .ifx t v
  | gp g => exact .gp g
  | gsl g n h => exact .gsl g n h
theorem fn1_nl {P : Program} {f : FuncId} {args : List V} {R : V → Prop} (h : Fn1 P f args fun r => R r.nl) : Fn1 P f args R :=
  fun w I vs h1 h2 h3 => (h w I vs h1 h2 h3).mono fun _ _ ⟨v, r, I', a, b, c, d⟩ => ⟨v, r.nl, I', a, b, c.nl, d⟩

structure Atr where
  name : List UInt8
  value : List UInt8
def attA (a : Atr) : V := .agg [.str a.name, .str a.value]
theorem nl_atts : ∀ l : List Atr, nlL (l.map attA) = l.map attA
  | [] => by simp [nlL]
  | a :: l => by simp [nlL, V.nl, attA, nl_atts l]
theorem cells_att (l : List Atr) : ∀ y ∈ l.map attA, y.cells.length = 2 := fun y hy => by obtain ⟨q, _, rfl⟩ := List.mem_map.1 hy; rfl

inductive Nd where
  | mk (name : List UInt8) (attrs : List Atr) (text : List UInt8) (parts : List Nd)
def Nd.name : Nd → List UInt8 | .mk n _ _ _ => n
def Nd.attrs : Nd → List Atr | .mk _ a _ _ => a
def Nd.text : Nd → List UInt8 | .mk _ _ t _ => t
def Nd.parts : Nd → List Nd | .mk _ _ _ p => p
mutual
def nodeA : Nd → V
  | .mk n a t ps => .agg [.str n, .lst (a.map attA), .str t, .lst (nodesL ps)]
def nodesL : List Nd → List V
  | [] => []
  | n :: ns => nodeA n :: nodesL ns
end
theorem nodesL_map : ∀ ps, nodesL ps = ps.map nodeA
  | [] => by simp [nodesL]
  | n :: ns => by simp [nodesL, nodesL_map ns]
theorem nodesL_length (l : List Nd) : (nodesL l).length = l.length := by rw [nodesL_map]; simp
theorem nodeA_mk (n : List UInt8) (a : List Atr) (t : List UInt8) (ps : List Nd) : nodeA (.mk n a t ps) = .agg [.str n, .lst (a.map attA), .str t, .lst (nodesL ps)] := by simp [nodeA]
theorem nodesL_get {l : List Nd} {k : Nat} {n : List UInt8} {a : List Atr} {t : List UInt8} {ps : List Nd} (h : l[k]? = some (.mk n a t ps)) : (nodesL l)[k]? = some (.agg [.str n, .lst (a.map attA), .str t, .lst (nodesL ps)]) := by
  rw [nodesL_map, List.getElem?_map, h, Option.map_some, nodeA_mk]
theorem node_at {l : List Nd} {k : Nat} (h : k < l.length) : ∃ n a t ps, l[k]? = some (.mk n a t ps) ∧ (nodesL l)[k]? = some (.agg [.str n, .lst (a.map attA), .str t, .lst (nodesL ps)]) := by
  have hx : l[k]? = some l[k] := List.getElem?_eq_getElem h
  cases hn : l[k] with
  | mk n a t ps => rw [hn] at hx; exact ⟨n, a, t, ps, hx, nodesL_get hx⟩
theorem nodeA_cells (x : Nd) : (nodeA x).cells.length = 4 := by cases x; rw [nodeA_mk]; rfl
theorem cells_nodes (l : List Nd) : ∀ y ∈ nodesL l, y.cells.length = 4 := fun y hy => by
  rw [nodesL_map] at hy
  obtain ⟨q, _, rfl⟩ := List.mem_map.1 hy
  exact nodeA_cells q
theorem nodesL_append (a b : List Nd) : nodesL (a ++ b) = nodesL a ++ nodesL b := by simp [nodesL_map]
theorem nodesL_nr (l : List Nd) : nrL (nodesL l) := by
  rw [nodesL_map, nrL_mem]
  intro x hx
  obtain ⟨q, _, rfl⟩ := List.mem_map.1 hx
  cases q
  rw [nodeA_mk]
  exact ⟨trivial, trivial, trivial, trivial, trivial⟩
mutual
theorem nl_node : ∀ n, (nodeA n).nl = nodeA n
  | .mk n a t ps => by simp [nodeA, V.nl, nlL, nl_atts, nl_nodes ps]
theorem nl_nodes : ∀ l, nlL (nodesL l) = nodesL l
  | [] => by simp [nodesL, nlL]
  | n :: ns => by simp [nodesL, nlL, nl_node n, nl_nodes ns]
end
theorem frz_nrV (id : Nat) (els : List V) (x : V) : x.nr → x.frz id els = x := by
  refine V.rec (motive_1 := fun x => x.nr → x.frz id els = x) (motive_2 := fun l => nrL l → frzL id els l = l) ?_ ?_ ?_ ?_ ?_ ?_ ?_ ?_ ?_ ?_ ?_ ?_ ?_ ?_ ?_ ?_ ?_ ?_ ?_ ?_ ?_ x
  all_goals first
    | (intro h; simp [V.frz, frzL]; done)
    | (intro a h; simp [V.frz]; done)
    | (intro a b h; simp [V.frz]; done)
    | (intro a b c h; simp [V.frz]; done)
    | (intro a ih h; simp [V.frz]; done)
    | (intro l ih h; simp only [V.frz]; rw [ih h])
    | (intro f l ih h; simp only [V.frz]; rw [ih h])
    | (intro a b c h; exact (h : False).elim)
    | (intro a h; exact (h : False).elim)
    | (intro x l h1 h2 h; simp only [frzL]; rw [h1 h.1, h2 h.2])
theorem frz_nrL (id : Nat) (els : List V) : ∀ {l : List V}, nrL l → frzL id els l = l
  | [], _ => by simp [frzL]
  | x :: l, h => by simp only [frzL]; rw [frz_nrV id els x h.1, frz_nrL id els h.2]
theorem kill_nrV (id : Nat) (x : V) : x.nr → x.kill id = x := by
  refine V.rec (motive_1 := fun x => x.nr → x.kill id = x) (motive_2 := fun l => nrL l → killL id l = l) ?_ ?_ ?_ ?_ ?_ ?_ ?_ ?_ ?_ ?_ ?_ ?_ ?_ ?_ ?_ ?_ ?_ ?_ ?_ ?_ ?_ x
  all_goals first
    | (intro h; simp [V.kill, killL]; done)
    | (intro a h; simp [V.kill]; done)
    | (intro a b h; simp [V.kill]; done)
    | (intro a b c h; simp [V.kill]; done)
    | (intro a ih h; simp [V.kill]; done)
    | (intro l ih h; simp only [V.kill]; rw [ih h])
    | (intro f l ih h; simp only [V.kill]; rw [ih h])
    | (intro a b c h; exact (h : False).elim)
    | (intro a h; exact (h : False).elim)
    | (intro x l h1 h2 h; simp only [killL]; rw [h1 h.1, h2 h.2])
theorem kill_nrL (id : Nat) : ∀ {l : List V}, nrL l → killL id l = l
  | [], _ => by simp [killL]
  | x :: l, h => by simp only [killL]; rw [kill_nrV id x h.1, kill_nrL id h.2]
theorem low_nrV (n : Nat) (x : V) : x.nr → x.low n = true := by
  refine V.rec (motive_1 := fun x => x.nr → x.low n = true) (motive_2 := fun l => nrL l → lowL n l = true) ?_ ?_ ?_ ?_ ?_ ?_ ?_ ?_ ?_ ?_ ?_ ?_ ?_ ?_ ?_ ?_ ?_ ?_ ?_ ?_ ?_ x
  all_goals intros
  all_goals first
    | rfl
    | (simp_all [V.nr, nrL, V.low, lowL]; done)
theorem low_nrL (n : Nat) : ∀ {l : List V}, nrL l → lowL n l = true
  | [], _ => rfl
  | x :: l, h => by
    simp only [lowL, low_nrV n x h.1, low_nrL n h.2, Bool.and_self]
theorem nr_atts (l : List Atr) : nrL (l.map attA) := by
  rw [nrL_mem]
  intro x hx
  obtain ⟨q, _, rfl⟩ := List.mem_map.1 hx
  exact ⟨trivial, trivial, trivial⟩
theorem kill_atts (id : Nat) (l : List Atr) : killL id (l.map attA) = l.map attA := kill_nrL id (nr_atts l)
theorem kill_nodes (id : Nat) (ps : List Nd) : killL id (nodesL ps) = nodesL ps := kill_nrL id (nodesL_nr ps)

/-! ### How much is read -/
def szS (s : List UInt8) : Nat := s.length + 1
def szA (a : Atr) : Nat := szS a.name + szS a.value + 1
mutual
def szN : Nd → Nat
  | .mk n a t ps => szS n + ((a.map szA).sum + 1) + szS t + (szL ps + 1) + 1
def szL : List Nd → Nat
  | [] => 0
  | n :: ns => szN n + szL ns
end
theorem szL_sum : ∀ ps, szL ps = (ps.map szN).sum
  | [] => by simp [szL]
  | n :: ns => by simp [szL, szL_sum ns]
theorem mem_sum {α : Type} (f : α → Nat) : ∀ (l : List α) (x : α), x ∈ l → f x ≤ (l.map f).sum
  | [], x, h => by simp at h
  | y :: l, x, h => by
    simp at h
    rcases h with rfl | h
    · simp
    · have := mem_sum f l x h
      simp; omega
theorem szN_pos (x : Nd) : 1 ≤ szN x := by cases x; simp [szN]
theorem len_le_sz {α : Type} (f : α → Nat) (hf : ∀ x, 1 ≤ f x) : ∀ l : List α, l.length ≤ (l.map f).sum
  | [] => by simp
  | x :: l => by have := len_le_sz f hf l; have := hf x; simp; omega
theorem szL_len (l : List Nd) : l.length ≤ szL l := by rw [szL_sum]; exact len_le_sz szN szN_pos l
theorem szL_mem {l : List Nd} {x : Nd} (h : x ∈ l) : szN x ≤ szL l := by rw [szL_sum]; exact mem_sum szN l x h
theorem szA_len (l : List Atr) : l.length ≤ (l.map szA).sum := len_le_sz szA (fun x => by simp [szA]) l
theorem szL_append (a b : List Nd) : szL (a ++ b) = szL a + szL b := by simp [szL_sum]

/-! ### As arguments -/
theorem reads_att (n : Nat) : Reads Tryd.prog 59 attA (fun _ => True) szA n := by
  cases n with
  | zero => exact Reads.zero
  | succ n =>
    obtain ⟨fs, hu, hs⟩ := fields_of (P := Tryd.prog) (t := 59) (sig := [(9, 0), (9, 1)]) (by kernel_rfl)
    obtain ⟨f0, r0, rfl, t0, o0, hs⟩ := fields_cons hs
    obtain ⟨f1, r1, rfl, t1, o1, hs⟩ := fields_cons hs
    obtain rfl := fields_nil hs
    refine (reads_struct (L := 2) hu cells_59 (g := fun x : List UInt8 × List UInt8 × Unit => (V.str x.1).cells ++ ((V.str x.2.1).cells ++ [])) (fun _ => rfl)
      (reads_fs_cons (f := V.str) (z := 1) o0 (by rw [t0]; exact cells_9) (fun _ => rfl) (by rw [t0]; exact reads_str (by kernel_rfl) n)
        (reads_fs_cons (f := V.str) (z := 1) o1 (by rw [t1]; exact cells_9) (fun _ => rfl) (by rw [t1]; exact reads_str (by kernel_rfl) n) reads_fs_nil))).as (fun x => (⟨x.1, x.2.1⟩ : Atr)) (fun _ => rfl) (fun _ _ => trivial) (fun x => by simp [szA, szS])
theorem reads_atts (n : Nat) : Reads Tryd.prog 37 (fun l : List Atr => .lst (List.map attA l)) (fun _ => True) (fun l => (l.map szA).sum + 1) n := by
  cases n with
  | zero => exact Reads.zero
  | succ n => exact (reads_slice (f := attA) (z := 2) (by kernel_rfl) cells_59 (fun _ => rfl) (by simp) (reads_att n)).as id (fun _ => rfl) (fun _ _ => trivial) (fun _ => Nat.le_refl _)
theorem reads_node_both (n : Nat) : Reads Tryd.prog 47 nodeA (fun _ => True) szN n ∧ Reads Tryd.prog 23 (fun l => .lst (nodesL l)) (fun _ => True) (fun l => szL l + 1) n := by
  induction n with
  | zero => exact ⟨Reads.zero, Reads.zero⟩
  | succ n ih =>
    refine ⟨?_, (reads_slice (f := nodeA) (z := 4) (by kernel_rfl) cells_47 nodeA_cells (by simp) ih.1).as id (fun _ => by simp [nodesL_map]) (fun _ _ => trivial) (fun l => by rw [szL_sum]; exact Nat.le_refl _)⟩
    obtain ⟨fs, hu, hs⟩ := fields_of (P := Tryd.prog) (t := 47) (sig := [(9, 0), (37, 1), (9, 2), (23, 3)]) (by kernel_rfl)
    obtain ⟨f0, r0, rfl, t0, o0, hs⟩ := fields_cons hs
    obtain ⟨f1, r1, rfl, t1, o1, hs⟩ := fields_cons hs
    obtain ⟨f2, r2, rfl, t2, o2, hs⟩ := fields_cons hs
    obtain ⟨f3, r3, rfl, t3, o3, hs⟩ := fields_cons hs
    obtain rfl := fields_nil hs
    refine (reads_struct (L := 4) hu cells_47 (g := fun x : List UInt8 × List Atr × List UInt8 × List Nd × Unit => (V.str x.1).cells ++ ((V.lst (List.map attA x.2.1)).cells ++ ((V.str x.2.2.1).cells ++ ((V.lst (nodesL x.2.2.2.1)).cells ++ [])))) (fun _ => rfl)
      (reads_fs_cons (f := V.str) (z := 1) o0 (by rw [t0]; exact cells_9) (fun _ => rfl) (by rw [t0]; exact reads_str (by kernel_rfl) n)
        (reads_fs_cons (f := fun l : List Atr => .lst (List.map attA l)) (z := 1) o1 (by rw [t1]; exact cells_37) (fun _ => rfl) (by rw [t1]; exact reads_atts n)
          (reads_fs_cons (f := V.str) (z := 1) o2 (by rw [t2]; exact cells_9) (fun _ => rfl) (by rw [t2]; exact reads_str (by kernel_rfl) n)
            (reads_fs_cons (f := fun l : List Nd => .lst (nodesL l)) (z := 1) o3 (by rw [t3]; exact cells_23) (fun _ => rfl) (by rw [t3]; exact ih.2) reads_fs_nil))))).as
      (fun x => Nd.mk x.1 x.2.1 x.2.2.1 x.2.2.2.1) (fun x => by rw [nodeA_mk]; rfl) (fun _ _ => trivial) (fun x => by simp only [szN, szS]; omega)
theorem reads_nodes (n : Nat) : Reads Tryd.prog 23 (fun l => .lst (nodesL l)) (fun _ => True) (fun l => szL l + 1) n := (reads_node_both n).2
theorem reads_node (n : Nat) : Reads Tryd.prog 47 nodeA (fun _ => True) szN n := (reads_node_both n).1
end Go.Proofs.YtbdogoccjcifnaaDoor
