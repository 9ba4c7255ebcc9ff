/- Nodes of a tree: as values, as they are read. No conditions. -/
import Derived.Test.YteabokphchpifaaLaw
namespace Go.Proofs.Yteabokphchpifaa
open Go.RowKit

abbrev Bytes := List UInt8
inductive Nd where
  | mk (name : Bytes) (attrs : List (Bytes × Bytes)) (text : Bytes) (parts : List Nd)
def Nd.name : Nd → Bytes | .mk n _ _ _ => n
def Nd.attrs : Nd → List (Bytes × Bytes) | .mk _ a _ _ => a
def Nd.text : Nd → Bytes | .mk _ _ t _ => t
def Nd.parts : Nd → List Nd | .mk _ _ _ p => p
def pairC (a : Bytes × Bytes) : List V := [.str a.1, .str a.2]
mutual
def nodeC : Nd → List V
  | .mk n a t ps => [.str n, .lst (a.map fun x => .agg (pairC x)), .str t, .lst (nodesL ps)]
def nodesL : List Nd → List V
  | [] => []
  | n :: ns => .agg (nodeC n) :: nodesL ns
end
theorem nodesL_map : ∀ ps, nodesL ps = ps.map fun n => .agg (nodeC n)
  | [] => by simp [nodesL]
  | n :: ns => by simp [nodesL, nodesL_map ns]
theorem nodeC_eq (n : Nd) : nodeC n = [.str n.name, .lst (n.attrs.map fun x => .agg (pairC x)), .str n.text, .lst (n.parts.map fun n => .agg (nodeC n))] := by
  cases n with
  | mk n a t ps => simp [nodeC, Nd.name, Nd.attrs, Nd.text, Nd.parts, nodesL_map]
theorem nodeC_len (n : Nd) : (nodeC n).length = 4 := by rw [nodeC_eq]; rfl
def nodesV (ps : List Nd) : V := .lst (ps.map fun n => .agg (nodeC n))

def szS (s : Bytes) : Nat := s.length + 1
def szA (a : Bytes × Bytes) : Nat := szS a.1 + szS a.2 + 1
mutual
def szN : Nd → Nat
  | .mk n a t ps => szS n + ((a.map szA).sum + 1) + szS t + (szL ps + 1) + 1
def szL : List Nd → Nat
  | [] => 0
  | n :: ns => szN n + szL ns
end
theorem szL_sum : ∀ ps, szL ps = (ps.map szN).sum
  | [] => by simp [szL]
  | n :: ns => by simp [szL, szL_sum ns]
theorem szN_eq (n : Nd) : szN n = szS n.name + ((n.attrs.map szA).sum + 1) + szS n.text + ((n.parts.map szN).sum + 1) + 1 := by
  cases n with
  | mk n a t ps => simp [szN, Nd.name, Nd.attrs, Nd.text, Nd.parts, szL_sum]
theorem mem_sum {α : Type} (f : α → Nat) : ∀ (l : List α) (x : α), x ∈ l → f x ≤ (l.map f).sum
  | [], x, h => by simp at h
  | y :: l, x, h => by
    simp at h
    rcases h with rfl | h
    · simp
    · have := mem_sum f l x h
      simp; omega

theorem reads_pair {t : TypeId} {tn tv : TypeId} (hu : (match Try.prog.underlying t with | some (.struct a) => some (a.toList.map fun f => (f.type, f.offset)) | _ => none) = some [(tn, 0), (tv, 1)]) (hc : Try.prog.cellsOf t = 2)
    (h1 : Try.prog.underlying tn = some .string) (h2 : Try.prog.underlying tv = some .string) (c1 : Try.prog.cellsOf tn = 1) (c2 : Try.prog.cellsOf tv = 1) (n : Nat) : Reads Try.prog t (fun a => .agg (pairC a)) (fun _ => True) szA n := by
  cases n with
  | zero => exact Reads.zero
  | succ n =>
    obtain ⟨fs, hu, hs⟩ := fields_of hu
    obtain ⟨f0, r0, rfl, t0, o0, hs⟩ := fields_cons hs
    obtain ⟨f1, r1, rfl, t1, o1, hs⟩ := fields_cons hs
    obtain rfl := fields_nil hs
    refine (reads_struct (L := 2) hu hc (g := fun x : Bytes × Bytes × Unit => (V.str x.1).cells ++ ((V.str x.2.1).cells ++ [])) (fun _ => rfl)
      (reads_fs_cons (f := V.str) (z := 1) o0 (by rw [t0]; exact c1) (fun _ => rfl) (by rw [t0]; exact reads_str h1 n)
        (reads_fs_cons (f := V.str) (z := 1) o1 (by rw [t1]; exact c2) (fun _ => rfl) (by rw [t1]; exact reads_str h2 n) reads_fs_nil))).as (fun x => (x.1, x.2.1)) (fun _ => rfl) (fun _ _ => trivial) (fun x => by simp [szA, szS])

theorem reads_attrs (n : Nat) : Reads Try.prog 39 (fun l : List (Bytes × Bytes) => .lst (l.map fun a => .agg (pairC a))) (fun _ => True) (fun l => (l.map szA).sum + 1) n := by
  cases n with
  | zero => exact Reads.zero
  | succ n => exact (reads_slice (f := fun a => .agg (pairC a)) (z := 2) (by kernel_rfl) cells_92 (fun _ => rfl) (by simp) (reads_pair (t := 92) (tn := 9) (tv := 9) (by kernel_rfl) cells_92 (by kernel_rfl) (by kernel_rfl) cells_9 cells_9 n)).as id (fun _ => rfl) (fun _ _ => trivial) (fun _ => Nat.le_refl _)

theorem reads_node_both (n : Nat) : Reads Try.prog 41 (fun x : Nd => .agg (nodeC x)) (fun _ => True) szN n ∧ Reads Try.prog 29 nodesV (fun _ => True) (fun l => (l.map szN).sum + 1) n := by
  induction n with
  | zero => exact ⟨Reads.zero, Reads.zero⟩
  | succ n ih =>
    refine ⟨?_, (reads_slice (f := fun x : Nd => .agg (nodeC x)) (z := 4) (by kernel_rfl) cells_41 nodeC_len (by simp) ih.1).as id (fun _ => rfl) (fun _ _ => trivial) (fun _ => Nat.le_refl _)⟩
    obtain ⟨fs, hu, hs⟩ := fields_of (P := Try.prog) (t := 41) (sig := [(9, 0), (39, 1), (9, 2), (29, 3)]) (by kernel_rfl)
    obtain ⟨f0, r0, rfl, t0, o0, hs⟩ := fields_cons hs
    obtain ⟨f1, r1, rfl, t1, o1, hs⟩ := fields_cons hs
    obtain ⟨f2, r2, rfl, t2, o2, hs⟩ := fields_cons hs
    obtain ⟨f3, r3, rfl, t3, o3, hs⟩ := fields_cons hs
    obtain rfl := fields_nil hs
    refine (reads_struct (L := 4) hu cells_41 (g := fun x : Bytes × List (Bytes × Bytes) × Bytes × List Nd × Unit => (V.str x.1).cells ++ ((V.lst (x.2.1.map fun a => .agg (pairC a))).cells ++ ((V.str x.2.2.1).cells ++ ((nodesV x.2.2.2.1).cells ++ [])))) (fun _ => rfl)
      (reads_fs_cons (f := V.str) (z := 1) o0 (by rw [t0]; exact cells_9) (fun _ => rfl) (by rw [t0]; exact reads_str (by kernel_rfl) n)
        (reads_fs_cons (f := fun l : List (Bytes × Bytes) => .lst (l.map fun a => .agg (pairC a))) (z := 1) o1 (by rw [t1]; exact cells_39) (fun _ => rfl) (by rw [t1]; exact reads_attrs n)
          (reads_fs_cons (f := V.str) (z := 1) o2 (by rw [t2]; exact cells_9) (fun _ => rfl) (by rw [t2]; exact reads_str (by kernel_rfl) n)
            (reads_fs_cons (f := nodesV) (z := 1) o3 (by rw [t3]; exact cells_29) (fun _ => rfl) (by rw [t3]; exact ih.2) reads_fs_nil))))).as
      (fun x => Nd.mk x.1 x.2.1 x.2.2.1 x.2.2.2.1) (fun x => by rw [nodeC_eq]; rfl) (fun _ _ => trivial) (fun x => by rw [szN_eq]; simp only [Nd.name, Nd.attrs, Nd.text, Nd.parts, szS]; omega)
theorem reads_nodes (n : Nat) : Reads Try.prog 29 nodesV (fun _ => True) (fun l => (l.map szN).sum + 1) n := (reads_node_both n).2

/-! ### What holds of a node holds under ghost steps -/
theorem nodeC_nr : ∀ n, nrL (nodeC n) := by
  intro n; rw [nodeC_eq]; exact ⟨trivial, trivial, trivial, trivial, trivial⟩
theorem kill_node (id : Nat) (n : Nd) : killL id (nodeC n) = nodeC n := by rw [nodeC_eq]; simp [killL, V.kill]
theorem frz_node (id : Nat) (els : List V) (n : Nd) : frzL id els (nodeC n) = nodeC n := by rw [nodeC_eq]; simp [frzL, V.frz]
theorem kill_nodes (id : Nat) (ps : List Nd) : killL id (ps.map fun n => .agg (nodeC n)) = ps.map fun n => .agg (nodeC n) := by
  induction ps with
  | nil => simp [killL]
  | cons n ns ih => simp [killL, V.kill, kill_node, ih]
theorem frz_nodes (id : Nat) (els : List V) (ps : List Nd) : frzL id els (ps.map fun n => .agg (nodeC n)) = ps.map fun n => .agg (nodeC n) := by
  induction ps with
  | nil => simp [frzL]
  | cons n ns ih => simp [frzL, V.frz, frz_node, ih]
theorem nodes_nr : ∀ ps : List Nd, nrL (ps.map fun n => .agg (nodeC n))
  | [] => trivial
  | n :: ns => ⟨nodeC_nr n, nodes_nr ns⟩
end Go.Proofs.Yteabokphchpifaa
