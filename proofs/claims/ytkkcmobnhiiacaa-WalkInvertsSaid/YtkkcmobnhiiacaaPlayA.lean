/- Changes of trees: what a change does, plain words; walk.change, walked. No conditions. -/
import Derived.Test.YtkkcmobnhiiacaaInsE
import Derived.Test.YtkkcmobnhiiacaaWalkAt
set_option linter.unusedSimpArgs false
set_option linter.unusedVariables false
set_option maxRecDepth 100000
namespace Go.Proofs.Ytkkcmobnhiiacaa
open Go.RowKit

theorem call_ownR {C : Ctx} {P : Program} {f : FuncId} {z n0 m : Nat} {els els' xs0 xs1 : List V} {fop : Operand} {args : List Operand} {K : V → ES → Prop} {σ : ES} (h : HFn P f (.sl 0 0 n0 :: xs0) [.row z els] [] (fun r o => r = .sl 0 0 m ∧ o = [.row z els'])) (hC : C.P = P) (hb : hasBody P f = true)
    (p : Nat) (he : evalC σ fop args = some (f, .sl p 0 n0 :: xs1)) (hx : rnL 1 (fun _ => p) xs0 xs1) (hrow : σ.heap[p]? = some (some (.row z els))) (hn : nrL els) (hn' : nrL els')
    (hK : killUE p σ.u fun u => fH ((killH p σ.heap).set p (some (.row z els'))) fun h => K (.sl p 0 m) ⟨σ.n, u, h⟩) : CallN C fop args f (.sl p 0 n0 :: xs1) K σ := by
  rw [killUE_eq, fH_eq] at hK
  refine call_h h hC hb he (fun _ => p) ?_ ?_ ?_ [p] ?_ ?_ ?_
  · intro i j hi hj _
    simp at hi hj
    omega
  · simp only [rnL]
    exact ⟨.sl p 0 n0, xs1, rfl, by simp [rnV], hx⟩
  · intro j o ho
    match j, ho with
    | 0, ho =>
      simp at ho
      subst ho
      exact ⟨_, hrow, els, rfl, rnL_self hn⟩
    | n + 1, ho => simp at ho
  · intro j _ hn
    exact absurd (by simp) hn
  · intro id hid
    simp at hid
    exact ⟨0, by simp, hid.symm⟩
  · rintro r0 objs' ⟨rfl, rfl⟩ _
    refine ⟨.sl p 0 m, [.row z els'], by simp [rnV], rfl, ?_, hK⟩
    intro j o o' ho ho'
    match j, ho, ho' with
    | 0, ho, ho' =>
      simp at ho ho'
      subst ho; subst ho'
      exact ⟨els', rfl, rnL_self hn'⟩
    | n + 1, ho, _ => simp at ho

structure Ch where
  kind : Int
  path : List Int
  node : Nd
def chA (c : Ch) : V := .agg (.int .i64 c.kind :: .lst (c.path.map (V.int .i64)) :: (nodeA c.node).cells)
theorem chA_mk (k : Int) (p : List Int) (n : List UInt8) (a : List Atr) (t : List UInt8) (ps : List Nd) : chA ⟨k, p, .mk n a t ps⟩ = .agg [.int .i64 k, .lst (p.map (V.int .i64)), .str n, .lst (a.map attA), .str t, .lst (nodesL ps)] := by
  unfold chA; rw [nodeA_mk]; rfl
/-- What a change does to the nodes l at a path: the nodes, what undoes it, the error. -/
def chgT (c : Ch) : List Nd → List Int → List Nd × Ch × Int
  | _, [] => ([], ⟨c.kind, c.path, nd0⟩, 7)
  | l, p :: ps => if p < 0 ∨ (l.length : Int) + (if c.kind = 1 ∧ ps = [] then 1 else 0) ≤ p then ([], ⟨c.kind, c.path, nd0⟩, 7)
    else if ps = [] then
      if c.kind = 1 then (l.take p.toNat ++ [c.node] ++ l.drop p.toNat, ⟨2, c.path, nd0⟩, 0)
      else if c.kind = 2 then (l.take p.toNat ++ l.drop (p.toNat + 1), ⟨1, c.path, l.getD p.toNat nd0⟩, 0)
      else (l.set p.toNat c.node, ⟨c.kind, c.path, l.getD p.toNat nd0⟩, 0)
    else match l[p.toNat]? with
      | none => ([], ⟨c.kind, c.path, nd0⟩, 7)
      | some n => if n.name = [] then ([], ⟨c.kind, c.path, nd0⟩, 7) else match chgT c n.parts ps with
        | (q, b, e) => (l.set p.toNat (.mk n.name n.attrs n.text q), b, e)
theorem clone_ints (l : List Int) (hl : l.length * 8 ≤ 140737488351232) : Fn1 Try.prog 36 [.lst (l.map (V.int .i64))] (fun r => r = .lst (l.map (V.int .i64))) := by
  have hlm : (l.map (V.int .i64)).length = l.length := by simp
  have hnr : nrL (l.map (V.int .i64)) := by rw [nrL_mem]; intro x hx; obtain ⟨q, _, rfl⟩ := List.mem_map.1 hx; trivial
  have hkl : killL 0 (List.take 0 (List.drop 0 []) ++ l.map (V.int .i64)) = l.map (V.int .i64) := by simp only [List.drop_nil, List.take_nil, List.nil_append, kill_nrL _ hnr]
  have hni : nlL (l.map (V.int .i64)) = l.map (V.int .i64) := by
    clear hlm hnr hkl hl
    induction l with
    | nil => simp [nlL]
    | cons x r ih => simp only [List.map_cons, nlL, ih]; rfl
  refine fn1_nl ?_
  refine fn1E (T := Try.tt) Try.func36 rfl tt_all follows_all ?_ ?_ fun C hC hE => ?_
  · kernel_rfl
  · exact Nat.le_of_ble_eq_true (by kernel_rfl)
  conv => whnf
  repeat' (first | (refine brd_t (by first | assumption | omega) ?_; conv => whnf) | (refine brd_f (by first | assumption | omega) ?_; conv => whnf) | (refine ask (by first | assumption | omega) ?_; conv => whnf) | (refine fit64 (by omega) ?_; conv => whnf) | (refine fit (by simp only [kmin, kmax]; omega) ?_; conv => whnf) | (refine br_t (by assumption) ?_; conv => whnf) | (refine br_f (by assumption) ?_; conv => whnf) | (refine get_of (by assumption) ?_; conv => whnf) | (refine get_map (by assumption) ?_; conv => whnf) | (refine ⟨cells_ints l, ?_⟩; conv => whnf) | (refine ret_up (up_frzK 0 2 [] rfl ?_ rfl ?_ rfl (up_here ?_)); (rw [hkl]; exact hnr); (rw [hkl]; omega)) | (refine draw_lex hE ?_ ?_; decide +kernel; conv => whnf) | (refine brd (fun h => ?_) (fun h => ?_) <;> conv => whnf) | (refine br (fun h => ?_) (fun h => ?_) <;> conv => whnf) | (refine ret_now hE ?_; conv => whnf) | (intro hlen; conv => whnf) | (refine seg_here ?_; conv => whnf) | (refine both ?_ ?_ <;> conv => whnf))
  · refine ⟨rfl, ?_⟩
    rw [hlen (by assumption)]
    simp [V.nl, nlL]
  · refine ⟨rfl, ?_⟩
    rw [hkl]
    simp [V.nl, hni]
end Go.Proofs.Ytkkcmobnhiiacaa
