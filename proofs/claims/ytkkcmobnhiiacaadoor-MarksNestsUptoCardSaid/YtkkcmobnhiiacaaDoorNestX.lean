/- The document's add (of MarksNest), walked. No conditions. -/
import Derived.Test.YtkkcmobnhiiacaaDoorFresh
import Derived.Test.YtkkcmobnhiiacaaDoorOwn
/-! The document's add (of MarksNest): the rule of its calls upon itself. No conditions. -/
set_option linter.unusedSimpArgs false
set_option linter.unusedVariables false
set_option maxRecDepth 100000
namespace Go.Proofs.YtkkcmobnhiiacaaDoor
open Go.RowKit

def addV : V := .fn 21 [.ptr 0 0 0]
def txC (t : List UInt8) : V := .agg [.str [], .lst [], .str t, .lst []]
def opn (n : List UInt8) (p len : Nat) : V := .agg [.str n, .lst [], .str [], .sl p 0 len]
def rho1 (j : Nat) : Nat := if j = 0 then 0 else j + 1
theorem rho1_inj (i j : Nat) (h : rho1 i = rho1 j) : i = j := by
  unfold rho1 at h
  split at h <;> split at h <;> omega
def allOb : Nat → List Ob → (Nat → Ob → Prop) → Prop
  | _, [], _ => True
  | j, o :: r, Q => Q j o ∧ allOb (j + 1) r Q
theorem allOb_get : ∀ {l : List Ob} {j : Nat} {Q : Nat → Ob → Prop}, allOb j l Q → ∀ (i : Nat) (o : Ob), l[i]? = some o → Q (j + i) o
  | [], j, Q, _, i, o, h => by simp at h
  | x :: r, j, Q, hq, 0, o, h => by
    simp only [List.getElem?_cons_zero, Option.some.injEq] at h
    subst h; exact hq.1
  | x :: r, j, Q, hq, i + 1, o, h => by
    have := allOb_get hq.2 i o (by simpa using h)
    rwa [show j + 1 + i = j + (i + 1) by omega] at this
def allOb2 : List Ob → List Ob → (Ob → Ob → Prop) → Prop
  | [], [], _ => True
  | o :: r, o' :: r', Q => Q o o' ∧ allOb2 r r' Q
  | _, _, _ => False
theorem allOb2_get : ∀ {l l' : List Ob} {Q : Ob → Ob → Prop}, allOb2 l l' Q → l.length = l'.length ∧ ∀ (i : Nat) (o o' : Ob), l[i]? = some o → l'[i]? = some o' → Q o o'
  | [], [], Q, _ => ⟨rfl, fun i o o' h => by simp at h⟩
  | x :: r, x' :: r', Q, hq => by
    obtain ⟨h1, h2⟩ := allOb2_get hq.2
    refine ⟨by simp [h1], fun i o o' h h' => ?_⟩
    cases i with
    | zero => simp at h h'; subst h; subst h'; exact hq.1
    | succ i => exact h2 i o o' (by simpa using h) (by simpa using h')
  | [], _ :: _, Q, hq => hq.elim
  | _ :: _, [], Q, hq => hq.elim
def lvls (k : Nat) : List Nat := (List.range (k - 1)).map (· + 2)
/-- A call upon what lies a level deeper. -/
theorem call_deep {C : Ctx} {P : Program} {f : FuncId} {xs0 xs1 : List V} {objs0 objs1 : List Ob} {R0 : V} {fop : Operand} {args : List Operand} {K : V → ES → Prop} {σ : ES} (h : HFn P f xs0 objs0 [0] (fun r o => r = R0 ∧ o = objs1)) (hC : C.P = P) (hb : hasBody P f = true)
    (he : evalC σ fop args = some (f, xs1)) (hx : rnL objs0.length rho1 xs0 xs1) (hobj : allOb 0 objs0 fun j o => ∃ o', σ.heap[rho1 j]? = some (some o') ∧ rnO objs0.length rho1 o o')
    (R1 : V) (hR : rnV objs0.length rho1 R0 R1) (objs2 : List Ob) (hl : objs1.length = objs0.length) (ho : allOb2 objs1 objs2 (rnO objs0.length rho1))
    (hK : K R1 ⟨σ.n, killUM (lvls objs0.length) σ.u, setObs rho1 objs2 0 (killHM (lvls objs0.length) σ.heap)⟩) : CallN C fop args f xs1 K σ := by
  refine call_h h hC hb he rho1 (fun i j _ _ e => rho1_inj i j e) hx (fun j o h => by have := allOb_get hobj j o h; rwa [Nat.zero_add] at this) (lvls objs0.length) ?_ ?_ ?_
  · intro j hj hn
    rcases Nat.eq_zero_or_pos j with h0 | h0
    · simp [h0]
    · refine absurd ?_ hn
      unfold lvls rho1
      rw [if_neg (by omega)]
      simp only [List.mem_map, List.mem_range]
      exact ⟨j - 1, by omega, by omega⟩
  · intro id hid
    unfold lvls at hid
    simp only [List.mem_map, List.mem_range] at hid
    obtain ⟨i, hi, rfl⟩ := hid
    exact ⟨i + 1, by omega, by unfold rho1; rw [if_neg (by omega)]⟩
  · rintro r0 objs' ⟨rfl, rfl⟩ _
    obtain ⟨g1, g2⟩ := allOb2_get ho
    exact ⟨R1, objs2, hR, by rw [← g1, hl], fun j o o' h1 h2 => g2 j o o' h1 h2, hK⟩
theorem rnO_of {k : Nat} {ρ : Nat → Nat} {z : Nat} {els els' : List V} (h : rnL k ρ els els') : rnO k ρ (.row z els) (.row z els') := ⟨els', rfl, h⟩
theorem rnL_app {k : Nat} {ρ : Nat → Nat} : ∀ {a a' b b' : List V}, rnL k ρ a a' → rnL k ρ b b' → rnL k ρ (a ++ b) (a' ++ b')
  | [], a', b, b', h, g => by simp only [rnL] at h; subst h; exact g
  | x :: a, a', b, b', h, g => by
    simp only [rnL] at h
    obtain ⟨y, r, rfl, h1, h2⟩ := h
    simp only [List.cons_append, rnL]
    exact ⟨y, _, rfl, h1, rnL_app h2 g⟩
theorem rnO_lv {k : Nat} {ρ : Nat → Nat} (c : List Nd) {x y : V} (h : rnV k ρ x y) : rnO k ρ (.row 4 (nodesL c ++ [x])) (.row 4 (nodesL c ++ [y])) := ⟨_, rfl, rnL_app (rnL_self (nodesL_nr c)) (by simp only [rnL]; exact ⟨y, [], rfl, h, rfl⟩)⟩
theorem rnO_nd {k : Nat} {ρ : Nat → Nat} (c : List Nd) : rnO k ρ (.row 4 (nodesL c)) (.row 4 (nodesL c)) := ⟨_, rfl, rnL_self (nodesL_nr c)⟩
theorem rn_opn {k : Nat} {ρ : Nat → Nat} {n : List UInt8} {p len : Nat} (h : p < k) : rnV k ρ (opn n p len) (opn n (ρ p) len) := by simp [opn, rnV, rnL, h]
theorem rnO_var {k : Nat} (h : 0 < k) : rnO k rho1 (.row 1 [addV]) (.row 1 [addV]) := ⟨_, rfl, by simp [rnL, rnV, addV, rho1, h]⟩
theorem rnO_opn {k : Nat} {n : List UInt8} {p len : Nat} (h : p < k) (h0 : p ≠ 0) : rnO k rho1 (.row 4 [opn n p len]) (.row 4 [opn n (p + 1) len]) := ⟨_, rfl, by simp [opn, rnV, rnL, h, rho1, h0]⟩
theorem rnO_txt {k : Nat} {ρ : Nat → Nat} (t : List UInt8) : rnO k ρ (.row 4 [txC t]) (.row 4 [txC t]) := ⟨_, rfl, rnL_self (nrB_nrL _ rfl)⟩
theorem kill_nds (id : Nat) (c : List Nd) : killL id (nodesL c) = nodesL c := kill_nrL id (nodesL_nr c)
theorem nds_take (c : List Nd) : List.take c.length (List.drop 0 (nodesL c)) = nodesL c := by rw [List.drop_zero]; exact List.take_of_length_le (by rw [nodesL_length]; exact Nat.le_refl _)
theorem kill_lv (id : Nat) (c : List Nd) (x : V) : killL id (nodesL c ++ [x]) = nodesL c ++ [x.kill id] := by rw [killL_app, kill_nds]; simp [killL]
theorem nl_lv (c : List Nd) (x : V) : nlL (nodesL c ++ [x]) = nodesL c ++ [x.nl] := by rw [nlL_append, nl_nodes]; simp [nlL]
theorem at_last (c : List Nd) (x : V) : (nodesL c ++ [x])[0 + (((c.length + 1 : Nat) : Int) - 1).toNat]? = some x := by
  rw [show 0 + (((c.length + 1 : Nat) : Int) - 1).toNat = (nodesL c).length by rw [nodesL_length]; omega]
  simp
theorem set_last (c : List Nd) (x y : V) : (nodesL c ++ [x]).set (0 + (((c.length + 1 : Nat) : Int) - 1).toNat) y = nodesL c ++ [y] := by
  rw [show 0 + (((c.length + 1 : Nat) : Int) - 1).toNat = (nodesL c).length by rw [nodesL_length]; omega, List.set_append_right _ _ (Nat.le_refl _), Nat.sub_self]
  rfl
theorem rnO_nil {k : Nat} {ρ : Nat → Nat} : rnO k ρ (.row 4 []) (.row 4 []) := ⟨_, rfl, rfl⟩
end Go.Proofs.YtkkcmobnhiiacaaDoor

/-! The document's add (of MarksNest), walked. No conditions. -/
namespace Go.Proofs.YtkkcmobnhiiacaaDoor
open Go.RowKit

set_option maxHeartbeats 8000000 in
theorem h_f0 (t : List UInt8) : HFn Tryd.prog 21 [.nils, .lst [], .bool true, .str t, .int .i64 0, .ptr 0 0 0] [.row 1 [addV], .row 4 []] [0] (fun r o => r = .sl 1 0 1 ∧ o = [.row 1 [addV], .row 4 [txC t]]) := by
  refine hfnE (T := Tryd.tt) Tryd.func21 rfl tt_all follows_all ?_ ?_ fun C vs hC hE => ?_
  · kernel_rfl
  · exact Nat.le_of_ble_eq_true (by kernel_rfl)
  conv => whnf
  repeat' (first | (refine brd_t (by first | assumption | omega) ?_; conv => whnf) | (refine brd_f (by first | assumption | omega) ?_; conv => whnf) | (refine ask (by first | assumption | omega) ?_; conv => whnf) | (refine fit64 (by omega) ?_; conv => whnf) | (refine fit (by simp only [kmin, kmax]; omega) ?_; conv => whnf) | (refine br_t (by assumption) ?_; conv => whnf) | (refine br_f (by assumption) ?_; conv => whnf) | (refine get_of (by assumption) ?_; conv => whnf) | (refine get_map (by assumption) ?_; conv => whnf) | (refine brd_t rfl ?_; conv => whnf) | (refine brd_f (of_decide_eq_false rfl) ?_; conv => whnf) | (refine ask (Nat.le_refl 1) ?_; conv => whnf) | (refine ask (of_decide_eq_true rfl) ?_; conv => whnf) | (refine draw_any hE [⟨0, [(0, none), (1, none), (2, none), (3, none), (4, none), (5, none), (6, none), (7, none), (8, none), (9, none), (10, none), (11, none), (12, none), (13, none)], some 14, [0, 1], [[], [0], [1], [0, 1]]⟩, ⟨0, [(15, none), (16, none)], some 17, [], [[]]⟩] ?_ ?_; decide +kernel; conv => whnf) | (refine draw_any hE [⟨0, [(0, none), (1, none), (2, none), (3, none), (4, none), (5, none), (6, none), (7, none), (8, none)], some 9, [0, 1, 2, 3], [[], [0], [3], [0, 3], [2, 3], [0, 2, 3], [1, 2, 3], [0, 1, 2, 3]]⟩, ⟨1, [(10, none), (11, some 0)], some 12, [], [[]]⟩, ⟨0, [(13, none)], none, [], [[]]⟩] ?_ ?_; decide +kernel; conv => whnf) | (refine draw_lex hE ?_ ?_; decide +kernel; conv => whnf) | (refine brd (fun h => ?_) (fun h => ?_) <;> conv => whnf) | (refine br (fun h => ?_) (fun h => ?_) <;> conv => whnf) | (refine ret_now hE ?_; conv => whnf) | (intro hlen; conv => whnf) | (refine seg_here ?_; conv => whnf) | (refine both ?_ ?_ <;> conv => whnf))
  all_goals
    refine hret_up ?_
    refine up_drop 3 ?_
    refine up_drop 1 ?_
    refine up_move 4 1 (by decide) rfl rfl ?_
    refine up_nl 1 rfl (up_here (hret_now hE ?_))
    conv => whnf
    exact ⟨rfl, rfl, rfl, rfl⟩
set_option maxHeartbeats 8000000 in
theorem h_f1 (s1 t : List UInt8) : HFn Tryd.prog 21 [.nils, .lst [.str s1], .bool true, .str t, .int .i64 0, .ptr 0 0 0] [.row 1 [addV], .row 4 [], .row 4 []] [0] (fun r o => r = .sl 1 0 1 ∧ o = [.row 1 [addV], .row 4 [opn s1 2 1], .row 4 [txC t]]) := by
  have hcs : ∀ y ∈ ([.str s1] : List V), y.cells.length = 1 := fun y hy => by
    simp only [List.mem_cons, List.not_mem_nil, or_false] at hy
    rcases hy with rfl <;> rfl
  have h1 := h_f0 t
  refine hfnE (T := Tryd.tt) Tryd.func21 rfl tt_all follows_all ?_ ?_ fun C vs hC hE => ?_
  · kernel_rfl
  · exact Nat.le_of_ble_eq_true (by kernel_rfl)
  conv => whnf
  repeat' (first | (refine brd_t (by first | assumption | omega) ?_; conv => whnf) | (refine brd_f (by first | assumption | omega) ?_; conv => whnf) | (refine ask (by first | assumption | omega) ?_; conv => whnf) | (refine fit64 (by omega) ?_; conv => whnf) | (refine fit (by simp only [kmin, kmax]; omega) ?_; conv => whnf) | (refine br_t (by assumption) ?_; conv => whnf) | (refine br_f (by assumption) ?_; conv => whnf) | (refine get_of (by assumption) ?_; conv => whnf) | (refine get_map (by assumption) ?_; conv => whnf) | (refine call_deep h1 hC hasBody_21 rfl ?_ ?_ (.sl 2 0 1) ?_ [.row 1 [addV], .row 4 [txC t]] rfl ?_ ?_; (simp [rnL, rnV, rho1]); exact ⟨⟨_, rfl, rnO_var (by decide)⟩, ⟨_, rfl, rnO_nil⟩, trivial⟩; (simp [rnV, rho1]); exact ⟨rnO_var (by decide), rnO_txt t, trivial⟩; conv => whnf) | (refine ⟨hcs, ?_⟩; conv => whnf) | (refine brd_t rfl ?_; conv => whnf) | (refine brd_f (of_decide_eq_false rfl) ?_; conv => whnf) | (refine ask (Nat.le_refl 1) ?_; conv => whnf) | (refine ask (of_decide_eq_true rfl) ?_; conv => whnf) | (refine draw_any hE [⟨0, [(0, none), (1, none), (2, none), (3, none), (4, none), (5, none), (6, none), (7, none), (8, none), (9, none), (10, none), (11, none), (12, none), (13, none)], some 14, [0, 1], [[], [0], [1], [0, 1]]⟩, ⟨0, [(15, none), (16, none)], some 17, [], [[]]⟩] ?_ ?_; decide +kernel; conv => whnf) | (refine draw_any hE [⟨0, [(0, none), (1, none), (2, none), (3, none), (4, none), (5, none), (6, none), (7, none), (8, none)], some 9, [0, 1, 2, 3], [[], [0], [3], [0, 3], [2, 3], [0, 2, 3], [1, 2, 3], [0, 1, 2, 3]]⟩, ⟨1, [(10, none), (11, some 0)], some 12, [], [[]]⟩, ⟨0, [(13, none)], none, [], [[]]⟩] ?_ ?_; decide +kernel; conv => whnf) | (refine draw_lex hE ?_ ?_; decide +kernel; conv => whnf) | (refine brd (fun h => ?_) (fun h => ?_) <;> conv => whnf) | (refine br (fun h => ?_) (fun h => ?_) <;> conv => whnf) | (refine ret_now hE ?_; conv => whnf) | (intro hlen; conv => whnf) | (refine seg_here ?_; conv => whnf) | (refine both ?_ ?_ <;> conv => whnf))
  all_goals
    refine hret_up ?_
    refine up_drop 4 ?_
    refine up_drop 1 ?_
    refine up_move 5 1 (by decide) rfl rfl ?_
    refine up_nl 1 rfl (up_here (hret_now hE ?_))
    conv => whnf
    exact ⟨rfl, rfl, rfl, rfl⟩
set_option maxHeartbeats 8000000 in
theorem h_f2 (s1 s2 t : List UInt8) : HFn Tryd.prog 21 [.nils, .lst [.str s1, .str s2], .bool true, .str t, .int .i64 0, .ptr 0 0 0] [.row 1 [addV], .row 4 [], .row 4 [], .row 4 []] [0] (fun r o => r = .sl 1 0 1 ∧ o = [.row 1 [addV], .row 4 [opn s1 2 1], .row 4 [opn s2 3 1], .row 4 [txC t]]) := by
  have hcs : ∀ y ∈ ([.str s1, .str s2] : List V), y.cells.length = 1 := fun y hy => by
    simp only [List.mem_cons, List.not_mem_nil, or_false] at hy
    rcases hy with rfl | rfl <;> rfl
  have h1 := h_f1 s2 t
  refine hfnE (T := Tryd.tt) Tryd.func21 rfl tt_all follows_all ?_ ?_ fun C vs hC hE => ?_
  · kernel_rfl
  · exact Nat.le_of_ble_eq_true (by kernel_rfl)
  conv => whnf
  repeat' (first | (refine brd_t (by first | assumption | omega) ?_; conv => whnf) | (refine brd_f (by first | assumption | omega) ?_; conv => whnf) | (refine ask (by first | assumption | omega) ?_; conv => whnf) | (refine fit64 (by omega) ?_; conv => whnf) | (refine fit (by simp only [kmin, kmax]; omega) ?_; conv => whnf) | (refine br_t (by assumption) ?_; conv => whnf) | (refine br_f (by assumption) ?_; conv => whnf) | (refine get_of (by assumption) ?_; conv => whnf) | (refine get_map (by assumption) ?_; conv => whnf) | (refine call_deep h1 hC hasBody_21 rfl ?_ ?_ (.sl 2 0 1) ?_ [.row 1 [addV], .row 4 [opn s2 3 1], .row 4 [txC t]] rfl ?_ ?_; (simp [rnL, rnV, rho1]); exact ⟨⟨_, rfl, rnO_var (by decide)⟩, ⟨_, rfl, rnO_nil⟩, ⟨_, rfl, rnO_nil⟩, trivial⟩; (simp [rnV, rho1]); exact ⟨rnO_var (by decide), rnO_opn (by decide) (by decide), rnO_txt t, trivial⟩; conv => whnf) | (refine ⟨hcs, ?_⟩; conv => whnf) | (refine brd_t rfl ?_; conv => whnf) | (refine brd_f (of_decide_eq_false rfl) ?_; conv => whnf) | (refine ask (Nat.le_refl 1) ?_; conv => whnf) | (refine ask (of_decide_eq_true rfl) ?_; conv => whnf) | (refine draw_any hE [⟨0, [(0, none), (1, none), (2, none), (3, none), (4, none), (5, none), (6, none), (7, none), (8, none), (9, none), (10, none), (11, none), (12, none), (13, none)], some 14, [0, 1], [[], [0], [1], [0, 1]]⟩, ⟨0, [(15, none), (16, none)], some 17, [], [[]]⟩] ?_ ?_; decide +kernel; conv => whnf) | (refine draw_any hE [⟨0, [(0, none), (1, none), (2, none), (3, none), (4, none), (5, none), (6, none), (7, none), (8, none)], some 9, [0, 1, 2, 3], [[], [0], [3], [0, 3], [2, 3], [0, 2, 3], [1, 2, 3], [0, 1, 2, 3]]⟩, ⟨1, [(10, none), (11, some 0)], some 12, [], [[]]⟩, ⟨0, [(13, none)], none, [], [[]]⟩] ?_ ?_; decide +kernel; conv => whnf) | (refine draw_lex hE ?_ ?_; decide +kernel; conv => whnf) | (refine brd (fun h => ?_) (fun h => ?_) <;> conv => whnf) | (refine br (fun h => ?_) (fun h => ?_) <;> conv => whnf) | (refine ret_now hE ?_; conv => whnf) | (intro hlen; conv => whnf) | (refine seg_here ?_; conv => whnf) | (refine both ?_ ?_ <;> conv => whnf))
  all_goals
    refine hret_up ?_
    refine up_drop 5 ?_
    refine up_drop 1 ?_
    refine up_move 6 1 (by decide) rfl rfl ?_
    refine up_nl 1 rfl (up_here (hret_now hE ?_))
    conv => whnf
    exact ⟨rfl, rfl, rfl, rfl⟩
set_option maxHeartbeats 8000000 in
theorem h_f3 (s1 s2 s3 t : List UInt8) : HFn Tryd.prog 21 [.nils, .lst [.str s1, .str s2, .str s3], .bool true, .str t, .int .i64 0, .ptr 0 0 0] [.row 1 [addV], .row 4 [], .row 4 [], .row 4 [], .row 4 []] [0] (fun r o => r = .sl 1 0 1 ∧ o = [.row 1 [addV], .row 4 [opn s1 2 1], .row 4 [opn s2 3 1], .row 4 [opn s3 4 1], .row 4 [txC t]]) := by
  have hcs : ∀ y ∈ ([.str s1, .str s2, .str s3] : List V), y.cells.length = 1 := fun y hy => by
    simp only [List.mem_cons, List.not_mem_nil, or_false] at hy
    rcases hy with rfl | rfl | rfl <;> rfl
  have h1 := h_f2 s2 s3 t
  refine hfnE (T := Tryd.tt) Tryd.func21 rfl tt_all follows_all ?_ ?_ fun C vs hC hE => ?_
  · kernel_rfl
  · exact Nat.le_of_ble_eq_true (by kernel_rfl)
  conv => whnf
  repeat' (first | (refine brd_t (by first | assumption | omega) ?_; conv => whnf) | (refine brd_f (by first | assumption | omega) ?_; conv => whnf) | (refine ask (by first | assumption | omega) ?_; conv => whnf) | (refine fit64 (by omega) ?_; conv => whnf) | (refine fit (by simp only [kmin, kmax]; omega) ?_; conv => whnf) | (refine br_t (by assumption) ?_; conv => whnf) | (refine br_f (by assumption) ?_; conv => whnf) | (refine get_of (by assumption) ?_; conv => whnf) | (refine get_map (by assumption) ?_; conv => whnf) | (refine call_deep h1 hC hasBody_21 rfl ?_ ?_ (.sl 2 0 1) ?_ [.row 1 [addV], .row 4 [opn s2 3 1], .row 4 [opn s3 4 1], .row 4 [txC t]] rfl ?_ ?_; (simp [rnL, rnV, rho1]); exact ⟨⟨_, rfl, rnO_var (by decide)⟩, ⟨_, rfl, rnO_nil⟩, ⟨_, rfl, rnO_nil⟩, ⟨_, rfl, rnO_nil⟩, trivial⟩; (simp [rnV, rho1]); exact ⟨rnO_var (by decide), rnO_opn (by decide) (by decide), rnO_opn (by decide) (by decide), rnO_txt t, trivial⟩; conv => whnf) | (refine ⟨hcs, ?_⟩; conv => whnf) | (refine brd_t rfl ?_; conv => whnf) | (refine brd_f (of_decide_eq_false rfl) ?_; conv => whnf) | (refine ask (Nat.le_refl 1) ?_; conv => whnf) | (refine ask (of_decide_eq_true rfl) ?_; conv => whnf) | (refine draw_any hE [⟨0, [(0, none), (1, none), (2, none), (3, none), (4, none), (5, none), (6, none), (7, none), (8, none), (9, none), (10, none), (11, none), (12, none), (13, none)], some 14, [0, 1], [[], [0], [1], [0, 1]]⟩, ⟨0, [(15, none), (16, none)], some 17, [], [[]]⟩] ?_ ?_; decide +kernel; conv => whnf) | (refine draw_any hE [⟨0, [(0, none), (1, none), (2, none), (3, none), (4, none), (5, none), (6, none), (7, none), (8, none)], some 9, [0, 1, 2, 3], [[], [0], [3], [0, 3], [2, 3], [0, 2, 3], [1, 2, 3], [0, 1, 2, 3]]⟩, ⟨1, [(10, none), (11, some 0)], some 12, [], [[]]⟩, ⟨0, [(13, none)], none, [], [[]]⟩] ?_ ?_; decide +kernel; conv => whnf) | (refine draw_lex hE ?_ ?_; decide +kernel; conv => whnf) | (refine brd (fun h => ?_) (fun h => ?_) <;> conv => whnf) | (refine br (fun h => ?_) (fun h => ?_) <;> conv => whnf) | (refine ret_now hE ?_; conv => whnf) | (intro hlen; conv => whnf) | (refine seg_here ?_; conv => whnf) | (refine both ?_ ?_ <;> conv => whnf))
  all_goals
    refine hret_up ?_
    refine up_drop 6 ?_
    refine up_drop 1 ?_
    refine up_move 7 1 (by decide) rfl rfl ?_
    refine up_nl 1 rfl (up_here (hret_now hE ?_))
    conv => whnf
    exact ⟨rfl, rfl, rfl, rfl⟩
end Go.Proofs.YtkkcmobnhiiacaaDoor

/-! The document's add (of MarksNest), walked. No conditions. -/
namespace Go.Proofs.YtkkcmobnhiiacaaDoor
open Go.RowKit

set_option maxHeartbeats 8000000 in
theorem h_a00 (t : List UInt8) (c0 : List Nd) (h0 : c0.length ≤ 1048576) : HFn Tryd.prog 21 [.sl 1 0 c0.length, .lst [], .bool true, .str t, .int .i64 0, .ptr 0 0 0] [.row 1 [addV], .row 4 (nodesL c0)] [0] (fun r o => r = .sl 1 0 (c0.length + 1) ∧ o = [.row 1 [addV], .row 4 (nodesL c0 ++ [txC t])]) := by
  refine hfnE (T := Tryd.tt) Tryd.func21 rfl tt_all follows_all ?_ ?_ fun C vs hC hE => ?_
  · kernel_rfl
  · exact Nat.le_of_ble_eq_true (by kernel_rfl)
  conv => whnf
  repeat' (first | (refine brd_t (by first | assumption | omega) ?_; conv => whnf) | (refine brd_f (by first | assumption | omega) ?_; conv => whnf) | (refine ask (by first | assumption | omega) ?_; conv => whnf) | (refine fit64 (by omega) ?_; conv => whnf) | (refine fit (by simp only [kmin, kmax]; omega) ?_; conv => whnf) | (refine br_t (by assumption) ?_; conv => whnf) | (refine br_f (by assumption) ?_; conv => whnf) | (refine get_of (by assumption) ?_; conv => whnf) | (refine get_map (by assumption) ?_; conv => whnf) | (refine brd_t rfl ?_; conv => whnf) | (refine brd_f (of_decide_eq_false rfl) ?_; conv => whnf) | (refine ask (Nat.le_refl 1) ?_; conv => whnf) | (refine ask (of_decide_eq_true rfl) ?_; conv => whnf) | (refine ask ⟨?_, ?_, ?_⟩ ?_; (simp [killL_length, nodesL_length]); (show _ + 1 ≤ 9223372036854775807; omega); (show (_ + 1) * 80 ≤ 140737488355328; omega); conv => whnf) | (refine draw_any hE [⟨0, [(0, none), (1, none), (2, none), (3, none), (4, none), (5, none), (6, none), (7, none), (8, none), (9, none), (10, none), (11, none), (12, none), (13, none)], some 14, [0, 1], [[], [0], [1], [0, 1]]⟩, ⟨0, [(15, none), (16, none)], some 17, [], [[]]⟩] ?_ ?_; decide +kernel; conv => whnf) | (refine draw_any hE [⟨0, [(0, none), (1, none), (2, none), (3, none), (4, none), (5, none), (6, none), (7, none), (8, none)], some 9, [0, 1, 2, 3], [[], [0], [3], [0, 3], [2, 3], [0, 2, 3], [1, 2, 3], [0, 1, 2, 3]]⟩, ⟨1, [(10, none), (11, some 0)], some 12, [], [[]]⟩, ⟨0, [(13, none)], none, [], [[]]⟩] ?_ ?_; decide +kernel; conv => whnf) | (refine draw_lex hE ?_ ?_; decide +kernel; conv => whnf) | (refine brd (fun h => ?_) (fun h => ?_) <;> conv => whnf) | (refine br (fun h => ?_) (fun h => ?_) <;> conv => whnf) | (refine ret_now hE ?_; conv => whnf) | (intro hlen; conv => whnf) | (refine seg_here ?_; conv => whnf) | (refine both ?_ ?_ <;> conv => whnf))
  all_goals
    refine hret_up ?_
    refine up_drop 3 ?_
    refine up_nl 1 rfl (up_here (hret_now hE ?_))
    conv => whnf
    refine ⟨rfl, rfl, rfl, ?_⟩
    simp only [nds_take, killL_app, kill_nds, nlL_append, nl_nodes]
    rfl
set_option maxHeartbeats 8000000 in
theorem h_a01 (s1 t : List UInt8) (c0 : List Nd) (h0 : c0.length ≤ 1048576) : HFn Tryd.prog 21 [.sl 1 0 c0.length, .lst [.str s1], .bool true, .str t, .int .i64 0, .ptr 0 0 0] [.row 1 [addV], .row 4 (nodesL c0), .row 4 []] [0] (fun r o => r = .sl 1 0 (c0.length + 1) ∧ o = [.row 1 [addV], .row 4 (nodesL c0 ++ [opn s1 2 1]), .row 4 ([txC t])]) := by
  have hcs : ∀ y ∈ ([.str s1] : List V), y.cells.length = 1 := fun y hy => by
    simp only [List.mem_cons, List.not_mem_nil, or_false] at hy
    rcases hy with rfl <;> rfl
  have h1 := h_f0 t
  refine hfnE (T := Tryd.tt) Tryd.func21 rfl tt_all follows_all ?_ ?_ fun C vs hC hE => ?_
  · kernel_rfl
  · exact Nat.le_of_ble_eq_true (by kernel_rfl)
  conv => whnf
  repeat' (first | (refine brd_t (by first | assumption | omega) ?_; conv => whnf) | (refine brd_f (by first | assumption | omega) ?_; conv => whnf) | (refine ask (by first | assumption | omega) ?_; conv => whnf) | (refine fit64 (by omega) ?_; conv => whnf) | (refine fit (by simp only [kmin, kmax]; omega) ?_; conv => whnf) | (refine br_t (by assumption) ?_; conv => whnf) | (refine br_f (by assumption) ?_; conv => whnf) | (refine get_of (by assumption) ?_; conv => whnf) | (refine get_map (by assumption) ?_; conv => whnf) | (refine call_deep h1 hC hasBody_21 rfl ?_ ?_ (.sl 2 0 1) ?_ [.row 1 [addV], .row 4 [txC t]] rfl ?_ ?_; (simp [rnL, rnV, rho1]); exact ⟨⟨_, rfl, rnO_var (of_decide_eq_true rfl)⟩, ⟨_, rfl, rnO_nil⟩, trivial⟩; (simp [rnV, rho1]); exact ⟨rnO_var (of_decide_eq_true rfl), rnO_txt t, trivial⟩; conv => whnf) | (refine ⟨hcs, ?_⟩; conv => whnf) | (refine brd_t rfl ?_; conv => whnf) | (refine brd_f (of_decide_eq_false rfl) ?_; conv => whnf) | (refine ask (Nat.le_refl 1) ?_; conv => whnf) | (refine ask (of_decide_eq_true rfl) ?_; conv => whnf) | (refine ask ⟨?_, ?_, ?_⟩ ?_; (simp [killL_length, nodesL_length]); (show _ + 1 ≤ 9223372036854775807; omega); (show (_ + 1) * 80 ≤ 140737488355328; omega); conv => whnf) | (refine draw_any hE [⟨0, [(0, none), (1, none), (2, none), (3, none), (4, none), (5, none), (6, none), (7, none), (8, none), (9, none), (10, none), (11, none), (12, none), (13, none)], some 14, [0, 1], [[], [0], [1], [0, 1]]⟩, ⟨0, [(15, none), (16, none)], some 17, [], [[]]⟩] ?_ ?_; decide +kernel; conv => whnf) | (refine draw_any hE [⟨0, [(0, none), (1, none), (2, none), (3, none), (4, none), (5, none), (6, none), (7, none), (8, none)], some 9, [0, 1, 2, 3], [[], [0], [3], [0, 3], [2, 3], [0, 2, 3], [1, 2, 3], [0, 1, 2, 3]]⟩, ⟨1, [(10, none), (11, some 0)], some 12, [], [[]]⟩, ⟨0, [(13, none)], none, [], [[]]⟩] ?_ ?_; decide +kernel; conv => whnf) | (refine draw_lex hE ?_ ?_; decide +kernel; conv => whnf) | (refine brd (fun h => ?_) (fun h => ?_) <;> conv => whnf) | (refine br (fun h => ?_) (fun h => ?_) <;> conv => whnf) | (refine ret_now hE ?_; conv => whnf) | (intro hlen; conv => whnf) | (refine seg_here ?_; conv => whnf) | (refine both ?_ ?_ <;> conv => whnf))
  all_goals
    refine hret_up ?_
    refine up_drop 4 ?_
    refine up_nl 1 rfl (up_here (hret_now hE ?_))
    conv => whnf
    refine ⟨rfl, rfl, rfl, ?_⟩
    simp only [nds_take, killL_app, kill_nds, nlL_append, nl_nodes]
    rfl
set_option maxHeartbeats 8000000 in
theorem h_a02 (s1 s2 t : List UInt8) (c0 : List Nd) (h0 : c0.length ≤ 1048576) : HFn Tryd.prog 21 [.sl 1 0 c0.length, .lst [.str s1, .str s2], .bool true, .str t, .int .i64 0, .ptr 0 0 0] [.row 1 [addV], .row 4 (nodesL c0), .row 4 [], .row 4 []] [0] (fun r o => r = .sl 1 0 (c0.length + 1) ∧ o = [.row 1 [addV], .row 4 (nodesL c0 ++ [opn s1 2 1]), .row 4 ([opn s2 3 1]), .row 4 ([txC t])]) := by
  have hcs : ∀ y ∈ ([.str s1, .str s2] : List V), y.cells.length = 1 := fun y hy => by
    simp only [List.mem_cons, List.not_mem_nil, or_false] at hy
    rcases hy with rfl | rfl <;> rfl
  have h1 := h_f1 s2 t
  refine hfnE (T := Tryd.tt) Tryd.func21 rfl tt_all follows_all ?_ ?_ fun C vs hC hE => ?_
  · kernel_rfl
  · exact Nat.le_of_ble_eq_true (by kernel_rfl)
  conv => whnf
  repeat' (first | (refine brd_t (by first | assumption | omega) ?_; conv => whnf) | (refine brd_f (by first | assumption | omega) ?_; conv => whnf) | (refine ask (by first | assumption | omega) ?_; conv => whnf) | (refine fit64 (by omega) ?_; conv => whnf) | (refine fit (by simp only [kmin, kmax]; omega) ?_; conv => whnf) | (refine br_t (by assumption) ?_; conv => whnf) | (refine br_f (by assumption) ?_; conv => whnf) | (refine get_of (by assumption) ?_; conv => whnf) | (refine get_map (by assumption) ?_; conv => whnf) | (refine call_deep h1 hC hasBody_21 rfl ?_ ?_ (.sl 2 0 1) ?_ [.row 1 [addV], .row 4 [opn s2 3 1], .row 4 [txC t]] rfl ?_ ?_; (simp [rnL, rnV, rho1]); exact ⟨⟨_, rfl, rnO_var (of_decide_eq_true rfl)⟩, ⟨_, rfl, rnO_nil⟩, ⟨_, rfl, rnO_nil⟩, trivial⟩; (simp [rnV, rho1]); exact ⟨rnO_var (of_decide_eq_true rfl), rnO_opn (of_decide_eq_true rfl) (of_decide_eq_true rfl), rnO_txt t, trivial⟩; conv => whnf) | (refine ⟨hcs, ?_⟩; conv => whnf) | (refine brd_t rfl ?_; conv => whnf) | (refine brd_f (of_decide_eq_false rfl) ?_; conv => whnf) | (refine ask (Nat.le_refl 1) ?_; conv => whnf) | (refine ask (of_decide_eq_true rfl) ?_; conv => whnf) | (refine ask ⟨?_, ?_, ?_⟩ ?_; (simp [killL_length, nodesL_length]); (show _ + 1 ≤ 9223372036854775807; omega); (show (_ + 1) * 80 ≤ 140737488355328; omega); conv => whnf) | (refine draw_any hE [⟨0, [(0, none), (1, none), (2, none), (3, none), (4, none), (5, none), (6, none), (7, none), (8, none), (9, none), (10, none), (11, none), (12, none), (13, none)], some 14, [0, 1], [[], [0], [1], [0, 1]]⟩, ⟨0, [(15, none), (16, none)], some 17, [], [[]]⟩] ?_ ?_; decide +kernel; conv => whnf) | (refine draw_any hE [⟨0, [(0, none), (1, none), (2, none), (3, none), (4, none), (5, none), (6, none), (7, none), (8, none)], some 9, [0, 1, 2, 3], [[], [0], [3], [0, 3], [2, 3], [0, 2, 3], [1, 2, 3], [0, 1, 2, 3]]⟩, ⟨1, [(10, none), (11, some 0)], some 12, [], [[]]⟩, ⟨0, [(13, none)], none, [], [[]]⟩] ?_ ?_; decide +kernel; conv => whnf) | (refine draw_lex hE ?_ ?_; decide +kernel; conv => whnf) | (refine brd (fun h => ?_) (fun h => ?_) <;> conv => whnf) | (refine br (fun h => ?_) (fun h => ?_) <;> conv => whnf) | (refine ret_now hE ?_; conv => whnf) | (intro hlen; conv => whnf) | (refine seg_here ?_; conv => whnf) | (refine both ?_ ?_ <;> conv => whnf))
  all_goals
    refine hret_up ?_
    refine up_drop 5 ?_
    refine up_nl 1 rfl (up_here (hret_now hE ?_))
    conv => whnf
    refine ⟨rfl, rfl, rfl, ?_⟩
    simp only [nds_take, killL_app, kill_nds, nlL_append, nl_nodes]
    rfl
set_option maxHeartbeats 8000000 in
theorem h_a03 (s1 s2 s3 t : List UInt8) (c0 : List Nd) (h0 : c0.length ≤ 1048576) : HFn Tryd.prog 21 [.sl 1 0 c0.length, .lst [.str s1, .str s2, .str s3], .bool true, .str t, .int .i64 0, .ptr 0 0 0] [.row 1 [addV], .row 4 (nodesL c0), .row 4 [], .row 4 [], .row 4 []] [0] (fun r o => r = .sl 1 0 (c0.length + 1) ∧ o = [.row 1 [addV], .row 4 (nodesL c0 ++ [opn s1 2 1]), .row 4 ([opn s2 3 1]), .row 4 ([opn s3 4 1]), .row 4 ([txC t])]) := by
  have hcs : ∀ y ∈ ([.str s1, .str s2, .str s3] : List V), y.cells.length = 1 := fun y hy => by
    simp only [List.mem_cons, List.not_mem_nil, or_false] at hy
    rcases hy with rfl | rfl | rfl <;> rfl
  have h1 := h_f2 s2 s3 t
  refine hfnE (T := Tryd.tt) Tryd.func21 rfl tt_all follows_all ?_ ?_ fun C vs hC hE => ?_
  · kernel_rfl
  · exact Nat.le_of_ble_eq_true (by kernel_rfl)
  conv => whnf
  repeat' (first | (refine brd_t (by first | assumption | omega) ?_; conv => whnf) | (refine brd_f (by first | assumption | omega) ?_; conv => whnf) | (refine ask (by first | assumption | omega) ?_; conv => whnf) | (refine fit64 (by omega) ?_; conv => whnf) | (refine fit (by simp only [kmin, kmax]; omega) ?_; conv => whnf) | (refine br_t (by assumption) ?_; conv => whnf) | (refine br_f (by assumption) ?_; conv => whnf) | (refine get_of (by assumption) ?_; conv => whnf) | (refine get_map (by assumption) ?_; conv => whnf) | (refine call_deep h1 hC hasBody_21 rfl ?_ ?_ (.sl 2 0 1) ?_ [.row 1 [addV], .row 4 [opn s2 3 1], .row 4 [opn s3 4 1], .row 4 [txC t]] rfl ?_ ?_; (simp [rnL, rnV, rho1]); exact ⟨⟨_, rfl, rnO_var (of_decide_eq_true rfl)⟩, ⟨_, rfl, rnO_nil⟩, ⟨_, rfl, rnO_nil⟩, ⟨_, rfl, rnO_nil⟩, trivial⟩; (simp [rnV, rho1]); exact ⟨rnO_var (of_decide_eq_true rfl), rnO_opn (of_decide_eq_true rfl) (of_decide_eq_true rfl), rnO_opn (of_decide_eq_true rfl) (of_decide_eq_true rfl), rnO_txt t, trivial⟩; conv => whnf) | (refine ⟨hcs, ?_⟩; conv => whnf) | (refine brd_t rfl ?_; conv => whnf) | (refine brd_f (of_decide_eq_false rfl) ?_; conv => whnf) | (refine ask (Nat.le_refl 1) ?_; conv => whnf) | (refine ask (of_decide_eq_true rfl) ?_; conv => whnf) | (refine ask ⟨?_, ?_, ?_⟩ ?_; (simp [killL_length, nodesL_length]); (show _ + 1 ≤ 9223372036854775807; omega); (show (_ + 1) * 80 ≤ 140737488355328; omega); conv => whnf) | (refine draw_any hE [⟨0, [(0, none), (1, none), (2, none), (3, none), (4, none), (5, none), (6, none), (7, none), (8, none), (9, none), (10, none), (11, none), (12, none), (13, none)], some 14, [0, 1], [[], [0], [1], [0, 1]]⟩, ⟨0, [(15, none), (16, none)], some 17, [], [[]]⟩] ?_ ?_; decide +kernel; conv => whnf) | (refine draw_any hE [⟨0, [(0, none), (1, none), (2, none), (3, none), (4, none), (5, none), (6, none), (7, none), (8, none)], some 9, [0, 1, 2, 3], [[], [0], [3], [0, 3], [2, 3], [0, 2, 3], [1, 2, 3], [0, 1, 2, 3]]⟩, ⟨1, [(10, none), (11, some 0)], some 12, [], [[]]⟩, ⟨0, [(13, none)], none, [], [[]]⟩] ?_ ?_; decide +kernel; conv => whnf) | (refine draw_lex hE ?_ ?_; decide +kernel; conv => whnf) | (refine brd (fun h => ?_) (fun h => ?_) <;> conv => whnf) | (refine br (fun h => ?_) (fun h => ?_) <;> conv => whnf) | (refine ret_now hE ?_; conv => whnf) | (intro hlen; conv => whnf) | (refine seg_here ?_; conv => whnf) | (refine both ?_ ?_ <;> conv => whnf))
  all_goals
    refine hret_up ?_
    refine up_drop 6 ?_
    refine up_nl 1 rfl (up_here (hret_now hE ?_))
    conv => whnf
    refine ⟨rfl, rfl, rfl, ?_⟩
    simp only [nds_take, killL_app, kill_nds, nlL_append, nl_nodes]
    rfl
set_option maxHeartbeats 8000000 in
theorem h_a04 (s1 s2 s3 s4 t : List UInt8) (c0 : List Nd) (h0 : c0.length ≤ 1048576) : HFn Tryd.prog 21 [.sl 1 0 c0.length, .lst [.str s1, .str s2, .str s3, .str s4], .bool true, .str t, .int .i64 0, .ptr 0 0 0] [.row 1 [addV], .row 4 (nodesL c0), .row 4 [], .row 4 [], .row 4 [], .row 4 []] [0] (fun r o => r = .sl 1 0 (c0.length + 1) ∧ o = [.row 1 [addV], .row 4 (nodesL c0 ++ [opn s1 2 1]), .row 4 ([opn s2 3 1]), .row 4 ([opn s3 4 1]), .row 4 ([opn s4 5 1]), .row 4 ([txC t])]) := by
  have hcs : ∀ y ∈ ([.str s1, .str s2, .str s3, .str s4] : List V), y.cells.length = 1 := fun y hy => by
    simp only [List.mem_cons, List.not_mem_nil, or_false] at hy
    rcases hy with rfl | rfl | rfl | rfl <;> rfl
  have h1 := h_f3 s2 s3 s4 t
  refine hfnE (T := Tryd.tt) Tryd.func21 rfl tt_all follows_all ?_ ?_ fun C vs hC hE => ?_
  · kernel_rfl
  · exact Nat.le_of_ble_eq_true (by kernel_rfl)
  conv => whnf
  repeat' (first | (refine brd_t (by first | assumption | omega) ?_; conv => whnf) | (refine brd_f (by first | assumption | omega) ?_; conv => whnf) | (refine ask (by first | assumption | omega) ?_; conv => whnf) | (refine fit64 (by omega) ?_; conv => whnf) | (refine fit (by simp only [kmin, kmax]; omega) ?_; conv => whnf) | (refine br_t (by assumption) ?_; conv => whnf) | (refine br_f (by assumption) ?_; conv => whnf) | (refine get_of (by assumption) ?_; conv => whnf) | (refine get_map (by assumption) ?_; conv => whnf) | (refine call_deep h1 hC hasBody_21 rfl ?_ ?_ (.sl 2 0 1) ?_ [.row 1 [addV], .row 4 [opn s2 3 1], .row 4 [opn s3 4 1], .row 4 [opn s4 5 1], .row 4 [txC t]] rfl ?_ ?_; (simp [rnL, rnV, rho1]); exact ⟨⟨_, rfl, rnO_var (of_decide_eq_true rfl)⟩, ⟨_, rfl, rnO_nil⟩, ⟨_, rfl, rnO_nil⟩, ⟨_, rfl, rnO_nil⟩, ⟨_, rfl, rnO_nil⟩, trivial⟩; (simp [rnV, rho1]); exact ⟨rnO_var (of_decide_eq_true rfl), rnO_opn (of_decide_eq_true rfl) (of_decide_eq_true rfl), rnO_opn (of_decide_eq_true rfl) (of_decide_eq_true rfl), rnO_opn (of_decide_eq_true rfl) (of_decide_eq_true rfl), rnO_txt t, trivial⟩; conv => whnf) | (refine ⟨hcs, ?_⟩; conv => whnf) | (refine brd_t rfl ?_; conv => whnf) | (refine brd_f (of_decide_eq_false rfl) ?_; conv => whnf) | (refine ask (Nat.le_refl 1) ?_; conv => whnf) | (refine ask (of_decide_eq_true rfl) ?_; conv => whnf) | (refine ask ⟨?_, ?_, ?_⟩ ?_; (simp [killL_length, nodesL_length]); (show _ + 1 ≤ 9223372036854775807; omega); (show (_ + 1) * 80 ≤ 140737488355328; omega); conv => whnf) | (refine draw_any hE [⟨0, [(0, none), (1, none), (2, none), (3, none), (4, none), (5, none), (6, none), (7, none), (8, none), (9, none), (10, none), (11, none), (12, none), (13, none)], some 14, [0, 1], [[], [0], [1], [0, 1]]⟩, ⟨0, [(15, none), (16, none)], some 17, [], [[]]⟩] ?_ ?_; decide +kernel; conv => whnf) | (refine draw_any hE [⟨0, [(0, none), (1, none), (2, none), (3, none), (4, none), (5, none), (6, none), (7, none), (8, none)], some 9, [0, 1, 2, 3], [[], [0], [3], [0, 3], [2, 3], [0, 2, 3], [1, 2, 3], [0, 1, 2, 3]]⟩, ⟨1, [(10, none), (11, some 0)], some 12, [], [[]]⟩, ⟨0, [(13, none)], none, [], [[]]⟩] ?_ ?_; decide +kernel; conv => whnf) | (refine draw_lex hE ?_ ?_; decide +kernel; conv => whnf) | (refine brd (fun h => ?_) (fun h => ?_) <;> conv => whnf) | (refine br (fun h => ?_) (fun h => ?_) <;> conv => whnf) | (refine ret_now hE ?_; conv => whnf) | (intro hlen; conv => whnf) | (refine seg_here ?_; conv => whnf) | (refine both ?_ ?_ <;> conv => whnf))
  all_goals
    refine hret_up ?_
    refine up_drop 7 ?_
    refine up_nl 1 rfl (up_here (hret_now hE ?_))
    conv => whnf
    refine ⟨rfl, rfl, rfl, ?_⟩
    simp only [nds_take, killL_app, kill_nds, nlL_append, nl_nodes]
    rfl
set_option maxHeartbeats 8000000 in
theorem h_a10 (u1 n0 t : List UInt8) (c0 c1 : List Nd) (h0 : c0.length ≤ 1048576) (h1 : c1.length ≤ 1048576) : HFn Tryd.prog 21 [.sl 1 0 (c0.length + 1), .lst [.str u1], .bool true, .str t, .int .i64 1, .ptr 0 0 0] [.row 1 [addV], .row 4 (nodesL c0 ++ [opn n0 2 c1.length]), .row 4 (nodesL c1)] [0] (fun r o => r = .sl 1 0 (c0.length + 1) ∧ o = [.row 1 [addV], .row 4 (nodesL c0 ++ [opn n0 2 (c1.length + 1)]), .row 4 (nodesL c1 ++ [txC t])]) := by
  have hcs : ∀ y ∈ ([.str u1] : List V), y.cells.length = 1 := fun y hy => by
    simp only [List.mem_cons, List.not_mem_nil, or_false] at hy
    rcases hy with rfl <;> rfl
  have h1 := h_a00 t c1 h1
  have hg := at_last c0 (opn n0 2 c1.length)
  have hg2 : (killL 2 (nodesL c0 ++ [opn n0 2 c1.length]))[0 + (((c0.length + 1 : Nat) : Int) - 1).toNat]? = some (.agg [.str n0, .lst [], .str [], .any]) := by
    simp only [kill_lv]
    exact at_last c0 _
  refine hfnE (T := Tryd.tt) Tryd.func21 rfl tt_all follows_all ?_ ?_ fun C vs hC hE => ?_
  · kernel_rfl
  · exact Nat.le_of_ble_eq_true (by kernel_rfl)
  conv => whnf
  repeat' (first | (refine brd_t (by first | assumption | omega) ?_; conv => whnf) | (refine brd_f (by first | assumption | omega) ?_; conv => whnf) | (refine ask (by first | assumption | omega) ?_; conv => whnf) | (refine fit64 (by omega) ?_; conv => whnf) | (refine fit (by simp only [kmin, kmax]; omega) ?_; conv => whnf) | (refine br_t (by assumption) ?_; conv => whnf) | (refine br_f (by assumption) ?_; conv => whnf) | (refine get_of (by assumption) ?_; conv => whnf) | (refine get_map (by assumption) ?_; conv => whnf) | (refine call_deep h1 hC hasBody_21 rfl ?_ ?_ (.sl 2 0 (c1.length + 1)) ?_ [.row 1 [addV], .row 4 (nodesL c1 ++ [txC t])] rfl ?_ ?_; (simp [rnL, rnV, rho1]); exact ⟨⟨_, rfl, rnO_var (of_decide_eq_true rfl)⟩, ⟨_, rfl, rnO_nd _⟩, trivial⟩; (simp [rnV, rho1]); exact ⟨rnO_var (of_decide_eq_true rfl), rnO_lv _ (rnV_nr _ ⟨trivial, trivial, trivial, trivial, trivial⟩), trivial⟩; conv => whnf) | (refine ⟨hcs, ?_⟩; conv => whnf) | (refine get_of hg ?_; conv => whnf) | (refine get_of hg2 ?_; conv => whnf) | (refine brd_t rfl ?_; conv => whnf) | (refine brd_f (of_decide_eq_false rfl) ?_; conv => whnf) | (refine ask (Nat.le_refl 1) ?_; conv => whnf) | (refine ask (of_decide_eq_true rfl) ?_; conv => whnf) | (refine ask ⟨?_, ?_, ?_⟩ ?_; (simp [killL_length, nodesL_length]); (show _ + 1 ≤ 9223372036854775807; omega); (show (_ + 1) * 80 ≤ 140737488355328; omega); conv => whnf) | (refine draw_any hE [⟨0, [(0, none), (1, none), (2, none), (3, none), (4, none), (5, none), (6, none), (7, none), (8, none), (9, none), (10, none), (11, none), (12, none), (13, none)], some 14, [0, 1], [[], [0], [1], [0, 1]]⟩, ⟨0, [(15, none), (16, none)], some 17, [], [[]]⟩] ?_ ?_; decide +kernel; conv => whnf) | (refine draw_any hE [⟨0, [(0, none), (1, none), (2, none), (3, none), (4, none), (5, none), (6, none), (7, none), (8, none)], some 9, [0, 1, 2, 3], [[], [0], [3], [0, 3], [2, 3], [0, 2, 3], [1, 2, 3], [0, 1, 2, 3]]⟩, ⟨1, [(10, none), (11, some 0)], some 12, [], [[]]⟩, ⟨0, [(13, none)], none, [], [[]]⟩] ?_ ?_; decide +kernel; conv => whnf) | (refine draw_lex hE ?_ ?_; decide +kernel; conv => whnf) | (refine brd (fun h => ?_) (fun h => ?_) <;> conv => whnf) | (refine br (fun h => ?_) (fun h => ?_) <;> conv => whnf) | (refine ret_now hE ?_; conv => whnf) | (intro hlen; conv => whnf) | (refine seg_here ?_; conv => whnf) | (refine both ?_ ?_ <;> conv => whnf))
  all_goals
    refine hret_up (up_here (hret_now hE ?_))
    conv => whnf
    refine ⟨rfl, rfl, rfl, ?_⟩
    simp only [kill_lv, set_last]
    rfl
set_option maxHeartbeats 8000000 in
theorem h_a11 (u1 n0 s1 t : List UInt8) (c0 c1 : List Nd) (h0 : c0.length ≤ 1048576) (h1 : c1.length ≤ 1048576) : HFn Tryd.prog 21 [.sl 1 0 (c0.length + 1), .lst [.str u1, .str s1], .bool true, .str t, .int .i64 1, .ptr 0 0 0] [.row 1 [addV], .row 4 (nodesL c0 ++ [opn n0 2 c1.length]), .row 4 (nodesL c1), .row 4 []] [0] (fun r o => r = .sl 1 0 (c0.length + 1) ∧ o = [.row 1 [addV], .row 4 (nodesL c0 ++ [opn n0 2 (c1.length + 1)]), .row 4 (nodesL c1 ++ [opn s1 3 1]), .row 4 ([txC t])]) := by
  have hcs : ∀ y ∈ ([.str u1, .str s1] : List V), y.cells.length = 1 := fun y hy => by
    simp only [List.mem_cons, List.not_mem_nil, or_false] at hy
    rcases hy with rfl | rfl <;> rfl
  have h1 := h_a01 s1 t c1 h1
  have hg := at_last c0 (opn n0 2 c1.length)
  have hg2 : (killL 3 (killL 2 (nodesL c0 ++ [opn n0 2 c1.length])))[0 + (((c0.length + 1 : Nat) : Int) - 1).toNat]? = some (.agg [.str n0, .lst [], .str [], .any]) := by
    simp only [kill_lv]
    exact at_last c0 _
  refine hfnE (T := Tryd.tt) Tryd.func21 rfl tt_all follows_all ?_ ?_ fun C vs hC hE => ?_
  · kernel_rfl
  · exact Nat.le_of_ble_eq_true (by kernel_rfl)
  conv => whnf
  repeat' (first | (refine brd_t (by first | assumption | omega) ?_; conv => whnf) | (refine brd_f (by first | assumption | omega) ?_; conv => whnf) | (refine ask (by first | assumption | omega) ?_; conv => whnf) | (refine fit64 (by omega) ?_; conv => whnf) | (refine fit (by simp only [kmin, kmax]; omega) ?_; conv => whnf) | (refine br_t (by assumption) ?_; conv => whnf) | (refine br_f (by assumption) ?_; conv => whnf) | (refine get_of (by assumption) ?_; conv => whnf) | (refine get_map (by assumption) ?_; conv => whnf) | (refine call_deep h1 hC hasBody_21 rfl ?_ ?_ (.sl 2 0 (c1.length + 1)) ?_ [.row 1 [addV], .row 4 (nodesL c1 ++ [opn s1 3 1]), .row 4 ([txC t])] rfl ?_ ?_; (simp [rnL, rnV, rho1]); exact ⟨⟨_, rfl, rnO_var (of_decide_eq_true rfl)⟩, ⟨_, rfl, rnO_nd _⟩, ⟨_, rfl, rnO_nil⟩, trivial⟩; (simp [rnV, rho1]); exact ⟨rnO_var (of_decide_eq_true rfl), rnO_lv _ (rn_opn (of_decide_eq_true rfl)), rnO_txt t, trivial⟩; conv => whnf) | (refine ⟨hcs, ?_⟩; conv => whnf) | (refine get_of hg ?_; conv => whnf) | (refine get_of hg2 ?_; conv => whnf) | (refine brd_t rfl ?_; conv => whnf) | (refine brd_f (of_decide_eq_false rfl) ?_; conv => whnf) | (refine ask (Nat.le_refl 1) ?_; conv => whnf) | (refine ask (of_decide_eq_true rfl) ?_; conv => whnf) | (refine ask ⟨?_, ?_, ?_⟩ ?_; (simp [killL_length, nodesL_length]); (show _ + 1 ≤ 9223372036854775807; omega); (show (_ + 1) * 80 ≤ 140737488355328; omega); conv => whnf) | (refine draw_any hE [⟨0, [(0, none), (1, none), (2, none), (3, none), (4, none), (5, none), (6, none), (7, none), (8, none), (9, none), (10, none), (11, none), (12, none), (13, none)], some 14, [0, 1], [[], [0], [1], [0, 1]]⟩, ⟨0, [(15, none), (16, none)], some 17, [], [[]]⟩] ?_ ?_; decide +kernel; conv => whnf) | (refine draw_any hE [⟨0, [(0, none), (1, none), (2, none), (3, none), (4, none), (5, none), (6, none), (7, none), (8, none)], some 9, [0, 1, 2, 3], [[], [0], [3], [0, 3], [2, 3], [0, 2, 3], [1, 2, 3], [0, 1, 2, 3]]⟩, ⟨1, [(10, none), (11, some 0)], some 12, [], [[]]⟩, ⟨0, [(13, none)], none, [], [[]]⟩] ?_ ?_; decide +kernel; conv => whnf) | (refine draw_lex hE ?_ ?_; decide +kernel; conv => whnf) | (refine brd (fun h => ?_) (fun h => ?_) <;> conv => whnf) | (refine br (fun h => ?_) (fun h => ?_) <;> conv => whnf) | (refine ret_now hE ?_; conv => whnf) | (intro hlen; conv => whnf) | (refine seg_here ?_; conv => whnf) | (refine both ?_ ?_ <;> conv => whnf))
  all_goals
    refine hret_up (up_here (hret_now hE ?_))
    conv => whnf
    refine ⟨rfl, rfl, rfl, ?_⟩
    simp only [kill_lv, set_last]
    rfl
set_option maxHeartbeats 8000000 in
theorem h_a12 (u1 n0 s1 s2 t : List UInt8) (c0 c1 : List Nd) (h0 : c0.length ≤ 1048576) (h1 : c1.length ≤ 1048576) : HFn Tryd.prog 21 [.sl 1 0 (c0.length + 1), .lst [.str u1, .str s1, .str s2], .bool true, .str t, .int .i64 1, .ptr 0 0 0] [.row 1 [addV], .row 4 (nodesL c0 ++ [opn n0 2 c1.length]), .row 4 (nodesL c1), .row 4 [], .row 4 []] [0] (fun r o => r = .sl 1 0 (c0.length + 1) ∧ o = [.row 1 [addV], .row 4 (nodesL c0 ++ [opn n0 2 (c1.length + 1)]), .row 4 (nodesL c1 ++ [opn s1 3 1]), .row 4 ([opn s2 4 1]), .row 4 ([txC t])]) := by
  have hcs : ∀ y ∈ ([.str u1, .str s1, .str s2] : List V), y.cells.length = 1 := fun y hy => by
    simp only [List.mem_cons, List.not_mem_nil, or_false] at hy
    rcases hy with rfl | rfl | rfl <;> rfl
  have h1 := h_a02 s1 s2 t c1 h1
  have hg := at_last c0 (opn n0 2 c1.length)
  have hg2 : (killL 4 (killL 3 (killL 2 (nodesL c0 ++ [opn n0 2 c1.length]))))[0 + (((c0.length + 1 : Nat) : Int) - 1).toNat]? = some (.agg [.str n0, .lst [], .str [], .any]) := by
    simp only [kill_lv]
    exact at_last c0 _
  refine hfnE (T := Tryd.tt) Tryd.func21 rfl tt_all follows_all ?_ ?_ fun C vs hC hE => ?_
  · kernel_rfl
  · exact Nat.le_of_ble_eq_true (by kernel_rfl)
  conv => whnf
  repeat' (first | (refine brd_t (by first | assumption | omega) ?_; conv => whnf) | (refine brd_f (by first | assumption | omega) ?_; conv => whnf) | (refine ask (by first | assumption | omega) ?_; conv => whnf) | (refine fit64 (by omega) ?_; conv => whnf) | (refine fit (by simp only [kmin, kmax]; omega) ?_; conv => whnf) | (refine br_t (by assumption) ?_; conv => whnf) | (refine br_f (by assumption) ?_; conv => whnf) | (refine get_of (by assumption) ?_; conv => whnf) | (refine get_map (by assumption) ?_; conv => whnf) | (refine call_deep h1 hC hasBody_21 rfl ?_ ?_ (.sl 2 0 (c1.length + 1)) ?_ [.row 1 [addV], .row 4 (nodesL c1 ++ [opn s1 3 1]), .row 4 ([opn s2 4 1]), .row 4 ([txC t])] rfl ?_ ?_; (simp [rnL, rnV, rho1]); exact ⟨⟨_, rfl, rnO_var (of_decide_eq_true rfl)⟩, ⟨_, rfl, rnO_nd _⟩, ⟨_, rfl, rnO_nil⟩, ⟨_, rfl, rnO_nil⟩, trivial⟩; (simp [rnV, rho1]); exact ⟨rnO_var (of_decide_eq_true rfl), rnO_lv _ (rn_opn (of_decide_eq_true rfl)), rnO_opn (of_decide_eq_true rfl) (of_decide_eq_true rfl), rnO_txt t, trivial⟩; conv => whnf) | (refine ⟨hcs, ?_⟩; conv => whnf) | (refine get_of hg ?_; conv => whnf) | (refine get_of hg2 ?_; conv => whnf) | (refine brd_t rfl ?_; conv => whnf) | (refine brd_f (of_decide_eq_false rfl) ?_; conv => whnf) | (refine ask (Nat.le_refl 1) ?_; conv => whnf) | (refine ask (of_decide_eq_true rfl) ?_; conv => whnf) | (refine ask ⟨?_, ?_, ?_⟩ ?_; (simp [killL_length, nodesL_length]); (show _ + 1 ≤ 9223372036854775807; omega); (show (_ + 1) * 80 ≤ 140737488355328; omega); conv => whnf) | (refine draw_any hE [⟨0, [(0, none), (1, none), (2, none), (3, none), (4, none), (5, none), (6, none), (7, none), (8, none), (9, none), (10, none), (11, none), (12, none), (13, none)], some 14, [0, 1], [[], [0], [1], [0, 1]]⟩, ⟨0, [(15, none), (16, none)], some 17, [], [[]]⟩] ?_ ?_; decide +kernel; conv => whnf) | (refine draw_any hE [⟨0, [(0, none), (1, none), (2, none), (3, none), (4, none), (5, none), (6, none), (7, none), (8, none)], some 9, [0, 1, 2, 3], [[], [0], [3], [0, 3], [2, 3], [0, 2, 3], [1, 2, 3], [0, 1, 2, 3]]⟩, ⟨1, [(10, none), (11, some 0)], some 12, [], [[]]⟩, ⟨0, [(13, none)], none, [], [[]]⟩] ?_ ?_; decide +kernel; conv => whnf) | (refine draw_lex hE ?_ ?_; decide +kernel; conv => whnf) | (refine brd (fun h => ?_) (fun h => ?_) <;> conv => whnf) | (refine br (fun h => ?_) (fun h => ?_) <;> conv => whnf) | (refine ret_now hE ?_; conv => whnf) | (intro hlen; conv => whnf) | (refine seg_here ?_; conv => whnf) | (refine both ?_ ?_ <;> conv => whnf))
  all_goals
    refine hret_up (up_here (hret_now hE ?_))
    conv => whnf
    refine ⟨rfl, rfl, rfl, ?_⟩
    simp only [kill_lv, set_last]
    rfl
set_option maxHeartbeats 8000000 in
theorem h_a13 (u1 n0 s1 s2 s3 t : List UInt8) (c0 c1 : List Nd) (h0 : c0.length ≤ 1048576) (h1 : c1.length ≤ 1048576) : HFn Tryd.prog 21 [.sl 1 0 (c0.length + 1), .lst [.str u1, .str s1, .str s2, .str s3], .bool true, .str t, .int .i64 1, .ptr 0 0 0] [.row 1 [addV], .row 4 (nodesL c0 ++ [opn n0 2 c1.length]), .row 4 (nodesL c1), .row 4 [], .row 4 [], .row 4 []] [0] (fun r o => r = .sl 1 0 (c0.length + 1) ∧ o = [.row 1 [addV], .row 4 (nodesL c0 ++ [opn n0 2 (c1.length + 1)]), .row 4 (nodesL c1 ++ [opn s1 3 1]), .row 4 ([opn s2 4 1]), .row 4 ([opn s3 5 1]), .row 4 ([txC t])]) := by
  have hcs : ∀ y ∈ ([.str u1, .str s1, .str s2, .str s3] : List V), y.cells.length = 1 := fun y hy => by
    simp only [List.mem_cons, List.not_mem_nil, or_false] at hy
    rcases hy with rfl | rfl | rfl | rfl <;> rfl
  have h1 := h_a03 s1 s2 s3 t c1 h1
  have hg := at_last c0 (opn n0 2 c1.length)
  have hg2 : (killL 5 (killL 4 (killL 3 (killL 2 (nodesL c0 ++ [opn n0 2 c1.length])))))[0 + (((c0.length + 1 : Nat) : Int) - 1).toNat]? = some (.agg [.str n0, .lst [], .str [], .any]) := by
    simp only [kill_lv]
    exact at_last c0 _
  refine hfnE (T := Tryd.tt) Tryd.func21 rfl tt_all follows_all ?_ ?_ fun C vs hC hE => ?_
  · kernel_rfl
  · exact Nat.le_of_ble_eq_true (by kernel_rfl)
  conv => whnf
  repeat' (first | (refine brd_t (by first | assumption | omega) ?_; conv => whnf) | (refine brd_f (by first | assumption | omega) ?_; conv => whnf) | (refine ask (by first | assumption | omega) ?_; conv => whnf) | (refine fit64 (by omega) ?_; conv => whnf) | (refine fit (by simp only [kmin, kmax]; omega) ?_; conv => whnf) | (refine br_t (by assumption) ?_; conv => whnf) | (refine br_f (by assumption) ?_; conv => whnf) | (refine get_of (by assumption) ?_; conv => whnf) | (refine get_map (by assumption) ?_; conv => whnf) | (refine call_deep h1 hC hasBody_21 rfl ?_ ?_ (.sl 2 0 (c1.length + 1)) ?_ [.row 1 [addV], .row 4 (nodesL c1 ++ [opn s1 3 1]), .row 4 ([opn s2 4 1]), .row 4 ([opn s3 5 1]), .row 4 ([txC t])] rfl ?_ ?_; (simp [rnL, rnV, rho1]); exact ⟨⟨_, rfl, rnO_var (of_decide_eq_true rfl)⟩, ⟨_, rfl, rnO_nd _⟩, ⟨_, rfl, rnO_nil⟩, ⟨_, rfl, rnO_nil⟩, ⟨_, rfl, rnO_nil⟩, trivial⟩; (simp [rnV, rho1]); exact ⟨rnO_var (of_decide_eq_true rfl), rnO_lv _ (rn_opn (of_decide_eq_true rfl)), rnO_opn (of_decide_eq_true rfl) (of_decide_eq_true rfl), rnO_opn (of_decide_eq_true rfl) (of_decide_eq_true rfl), rnO_txt t, trivial⟩; conv => whnf) | (refine ⟨hcs, ?_⟩; conv => whnf) | (refine get_of hg ?_; conv => whnf) | (refine get_of hg2 ?_; conv => whnf) | (refine brd_t rfl ?_; conv => whnf) | (refine brd_f (of_decide_eq_false rfl) ?_; conv => whnf) | (refine ask (Nat.le_refl 1) ?_; conv => whnf) | (refine ask (of_decide_eq_true rfl) ?_; conv => whnf) | (refine ask ⟨?_, ?_, ?_⟩ ?_; (simp [killL_length, nodesL_length]); (show _ + 1 ≤ 9223372036854775807; omega); (show (_ + 1) * 80 ≤ 140737488355328; omega); conv => whnf) | (refine draw_any hE [⟨0, [(0, none), (1, none), (2, none), (3, none), (4, none), (5, none), (6, none), (7, none), (8, none), (9, none), (10, none), (11, none), (12, none), (13, none)], some 14, [0, 1], [[], [0], [1], [0, 1]]⟩, ⟨0, [(15, none), (16, none)], some 17, [], [[]]⟩] ?_ ?_; decide +kernel; conv => whnf) | (refine draw_any hE [⟨0, [(0, none), (1, none), (2, none), (3, none), (4, none), (5, none), (6, none), (7, none), (8, none)], some 9, [0, 1, 2, 3], [[], [0], [3], [0, 3], [2, 3], [0, 2, 3], [1, 2, 3], [0, 1, 2, 3]]⟩, ⟨1, [(10, none), (11, some 0)], some 12, [], [[]]⟩, ⟨0, [(13, none)], none, [], [[]]⟩] ?_ ?_; decide +kernel; conv => whnf) | (refine draw_lex hE ?_ ?_; decide +kernel; conv => whnf) | (refine brd (fun h => ?_) (fun h => ?_) <;> conv => whnf) | (refine br (fun h => ?_) (fun h => ?_) <;> conv => whnf) | (refine ret_now hE ?_; conv => whnf) | (intro hlen; conv => whnf) | (refine seg_here ?_; conv => whnf) | (refine both ?_ ?_ <;> conv => whnf))
  all_goals
    refine hret_up (up_here (hret_now hE ?_))
    conv => whnf
    refine ⟨rfl, rfl, rfl, ?_⟩
    simp only [kill_lv, set_last]
    rfl
end Go.Proofs.YtkkcmobnhiiacaaDoor

/-! The document's add (of MarksNest), walked. No conditions. -/
namespace Go.Proofs.YtkkcmobnhiiacaaDoor
open Go.RowKit

set_option maxHeartbeats 8000000 in
theorem h_a20 (u1 u2 n0 n1 t : List UInt8) (c0 c1 c2 : List Nd) (h0 : c0.length ≤ 1048576) (h1 : c1.length ≤ 1048576) (h2 : c2.length ≤ 1048576) : HFn Tryd.prog 21 [.sl 1 0 (c0.length + 1), .lst [.str u1, .str u2], .bool true, .str t, .int .i64 2, .ptr 0 0 0] [.row 1 [addV], .row 4 (nodesL c0 ++ [opn n0 2 (c1.length + 1)]), .row 4 (nodesL c1 ++ [opn n1 3 c2.length]), .row 4 (nodesL c2)] [0] (fun r o => r = .sl 1 0 (c0.length + 1) ∧ o = [.row 1 [addV], .row 4 (nodesL c0 ++ [opn n0 2 (c1.length + 1)]), .row 4 (nodesL c1 ++ [opn n1 3 (c2.length + 1)]), .row 4 (nodesL c2 ++ [txC t])]) := by
  have hcs : ∀ y ∈ ([.str u1, .str u2] : List V), y.cells.length = 1 := fun y hy => by
    simp only [List.mem_cons, List.not_mem_nil, or_false] at hy
    rcases hy with rfl | rfl <;> rfl
  have h1 := h_a10 u2 n1 t c1 c2 h1 h2
  have hg := at_last c0 (opn n0 2 (c1.length + 1))
  have hg2 : (killL 3 (killL 2 (nodesL c0 ++ [opn n0 2 (c1.length + 1)])))[0 + (((c0.length + 1 : Nat) : Int) - 1).toNat]? = some (.agg [.str n0, .lst [], .str [], .any]) := by
    simp only [kill_lv]
    exact at_last c0 _
  refine hfnE (T := Tryd.tt) Tryd.func21 rfl tt_all follows_all ?_ ?_ fun C vs hC hE => ?_
  · kernel_rfl
  · exact Nat.le_of_ble_eq_true (by kernel_rfl)
  conv => whnf
  repeat' (first | (refine brd_t (by first | assumption | omega) ?_; conv => whnf) | (refine brd_f (by first | assumption | omega) ?_; conv => whnf) | (refine ask (by first | assumption | omega) ?_; conv => whnf) | (refine fit64 (by omega) ?_; conv => whnf) | (refine fit (by simp only [kmin, kmax]; omega) ?_; conv => whnf) | (refine br_t (by assumption) ?_; conv => whnf) | (refine br_f (by assumption) ?_; conv => whnf) | (refine get_of (by assumption) ?_; conv => whnf) | (refine get_map (by assumption) ?_; conv => whnf) | (refine call_deep h1 hC hasBody_21 rfl ?_ ?_ (.sl 2 0 (c1.length + 1)) ?_ [.row 1 [addV], .row 4 (nodesL c1 ++ [opn n1 3 (c2.length + 1)]), .row 4 (nodesL c2 ++ [txC t])] rfl ?_ ?_; (simp [rnL, rnV, rho1]); exact ⟨⟨_, rfl, rnO_var (of_decide_eq_true rfl)⟩, ⟨_, rfl, rnO_lv _ (rn_opn (of_decide_eq_true rfl))⟩, ⟨_, rfl, rnO_nd _⟩, trivial⟩; (simp [rnV, rho1]); exact ⟨rnO_var (of_decide_eq_true rfl), rnO_lv _ (rn_opn (of_decide_eq_true rfl)), rnO_lv _ (rnV_nr _ ⟨trivial, trivial, trivial, trivial, trivial⟩), trivial⟩; conv => whnf) | (refine ⟨hcs, ?_⟩; conv => whnf) | (refine get_of hg ?_; conv => whnf) | (refine get_of hg2 ?_; conv => whnf) | (refine brd_t rfl ?_; conv => whnf) | (refine brd_f (of_decide_eq_false rfl) ?_; conv => whnf) | (refine ask (Nat.le_refl 1) ?_; conv => whnf) | (refine ask (of_decide_eq_true rfl) ?_; conv => whnf) | (refine ask ⟨?_, ?_, ?_⟩ ?_; (simp [killL_length, nodesL_length]); (show _ + 1 ≤ 9223372036854775807; omega); (show (_ + 1) * 80 ≤ 140737488355328; omega); conv => whnf) | (refine draw_any hE [⟨0, [(0, none), (1, none), (2, none), (3, none), (4, none), (5, none), (6, none), (7, none), (8, none), (9, none), (10, none), (11, none), (12, none), (13, none)], some 14, [0, 1], [[], [0], [1], [0, 1]]⟩, ⟨0, [(15, none), (16, none)], some 17, [], [[]]⟩] ?_ ?_; decide +kernel; conv => whnf) | (refine draw_any hE [⟨0, [(0, none), (1, none), (2, none), (3, none), (4, none), (5, none), (6, none), (7, none), (8, none)], some 9, [0, 1, 2, 3], [[], [0], [3], [0, 3], [2, 3], [0, 2, 3], [1, 2, 3], [0, 1, 2, 3]]⟩, ⟨1, [(10, none), (11, some 0)], some 12, [], [[]]⟩, ⟨0, [(13, none)], none, [], [[]]⟩] ?_ ?_; decide +kernel; conv => whnf) | (refine draw_lex hE ?_ ?_; decide +kernel; conv => whnf) | (refine brd (fun h => ?_) (fun h => ?_) <;> conv => whnf) | (refine br (fun h => ?_) (fun h => ?_) <;> conv => whnf) | (refine ret_now hE ?_; conv => whnf) | (intro hlen; conv => whnf) | (refine seg_here ?_; conv => whnf) | (refine both ?_ ?_ <;> conv => whnf))
  all_goals
    refine hret_up (up_here (hret_now hE ?_))
    conv => whnf
    refine ⟨rfl, rfl, rfl, ?_⟩
    simp only [kill_lv, set_last]
    rfl
set_option maxHeartbeats 8000000 in
theorem h_a21 (u1 u2 n0 n1 s1 t : List UInt8) (c0 c1 c2 : List Nd) (h0 : c0.length ≤ 1048576) (h1 : c1.length ≤ 1048576) (h2 : c2.length ≤ 1048576) : HFn Tryd.prog 21 [.sl 1 0 (c0.length + 1), .lst [.str u1, .str u2, .str s1], .bool true, .str t, .int .i64 2, .ptr 0 0 0] [.row 1 [addV], .row 4 (nodesL c0 ++ [opn n0 2 (c1.length + 1)]), .row 4 (nodesL c1 ++ [opn n1 3 c2.length]), .row 4 (nodesL c2), .row 4 []] [0] (fun r o => r = .sl 1 0 (c0.length + 1) ∧ o = [.row 1 [addV], .row 4 (nodesL c0 ++ [opn n0 2 (c1.length + 1)]), .row 4 (nodesL c1 ++ [opn n1 3 (c2.length + 1)]), .row 4 (nodesL c2 ++ [opn s1 4 1]), .row 4 ([txC t])]) := by
  have hcs : ∀ y ∈ ([.str u1, .str u2, .str s1] : List V), y.cells.length = 1 := fun y hy => by
    simp only [List.mem_cons, List.not_mem_nil, or_false] at hy
    rcases hy with rfl | rfl | rfl <;> rfl
  have h1 := h_a11 u2 n1 s1 t c1 c2 h1 h2
  have hg := at_last c0 (opn n0 2 (c1.length + 1))
  have hg2 : (killL 4 (killL 3 (killL 2 (nodesL c0 ++ [opn n0 2 (c1.length + 1)]))))[0 + (((c0.length + 1 : Nat) : Int) - 1).toNat]? = some (.agg [.str n0, .lst [], .str [], .any]) := by
    simp only [kill_lv]
    exact at_last c0 _
  refine hfnE (T := Tryd.tt) Tryd.func21 rfl tt_all follows_all ?_ ?_ fun C vs hC hE => ?_
  · kernel_rfl
  · exact Nat.le_of_ble_eq_true (by kernel_rfl)
  conv => whnf
  repeat' (first | (refine brd_t (by first | assumption | omega) ?_; conv => whnf) | (refine brd_f (by first | assumption | omega) ?_; conv => whnf) | (refine ask (by first | assumption | omega) ?_; conv => whnf) | (refine fit64 (by omega) ?_; conv => whnf) | (refine fit (by simp only [kmin, kmax]; omega) ?_; conv => whnf) | (refine br_t (by assumption) ?_; conv => whnf) | (refine br_f (by assumption) ?_; conv => whnf) | (refine get_of (by assumption) ?_; conv => whnf) | (refine get_map (by assumption) ?_; conv => whnf) | (refine call_deep h1 hC hasBody_21 rfl ?_ ?_ (.sl 2 0 (c1.length + 1)) ?_ [.row 1 [addV], .row 4 (nodesL c1 ++ [opn n1 3 (c2.length + 1)]), .row 4 (nodesL c2 ++ [opn s1 4 1]), .row 4 ([txC t])] rfl ?_ ?_; (simp [rnL, rnV, rho1]); exact ⟨⟨_, rfl, rnO_var (of_decide_eq_true rfl)⟩, ⟨_, rfl, rnO_lv _ (rn_opn (of_decide_eq_true rfl))⟩, ⟨_, rfl, rnO_nd _⟩, ⟨_, rfl, rnO_nil⟩, trivial⟩; (simp [rnV, rho1]); exact ⟨rnO_var (of_decide_eq_true rfl), rnO_lv _ (rn_opn (of_decide_eq_true rfl)), rnO_lv _ (rn_opn (of_decide_eq_true rfl)), rnO_txt t, trivial⟩; conv => whnf) | (refine ⟨hcs, ?_⟩; conv => whnf) | (refine get_of hg ?_; conv => whnf) | (refine get_of hg2 ?_; conv => whnf) | (refine brd_t rfl ?_; conv => whnf) | (refine brd_f (of_decide_eq_false rfl) ?_; conv => whnf) | (refine ask (Nat.le_refl 1) ?_; conv => whnf) | (refine ask (of_decide_eq_true rfl) ?_; conv => whnf) | (refine ask ⟨?_, ?_, ?_⟩ ?_; (simp [killL_length, nodesL_length]); (show _ + 1 ≤ 9223372036854775807; omega); (show (_ + 1) * 80 ≤ 140737488355328; omega); conv => whnf) | (refine draw_any hE [⟨0, [(0, none), (1, none), (2, none), (3, none), (4, none), (5, none), (6, none), (7, none), (8, none), (9, none), (10, none), (11, none), (12, none), (13, none)], some 14, [0, 1], [[], [0], [1], [0, 1]]⟩, ⟨0, [(15, none), (16, none)], some 17, [], [[]]⟩] ?_ ?_; decide +kernel; conv => whnf) | (refine draw_any hE [⟨0, [(0, none), (1, none), (2, none), (3, none), (4, none), (5, none), (6, none), (7, none), (8, none)], some 9, [0, 1, 2, 3], [[], [0], [3], [0, 3], [2, 3], [0, 2, 3], [1, 2, 3], [0, 1, 2, 3]]⟩, ⟨1, [(10, none), (11, some 0)], some 12, [], [[]]⟩, ⟨0, [(13, none)], none, [], [[]]⟩] ?_ ?_; decide +kernel; conv => whnf) | (refine draw_lex hE ?_ ?_; decide +kernel; conv => whnf) | (refine brd (fun h => ?_) (fun h => ?_) <;> conv => whnf) | (refine br (fun h => ?_) (fun h => ?_) <;> conv => whnf) | (refine ret_now hE ?_; conv => whnf) | (intro hlen; conv => whnf) | (refine seg_here ?_; conv => whnf) | (refine both ?_ ?_ <;> conv => whnf))
  all_goals
    refine hret_up (up_here (hret_now hE ?_))
    conv => whnf
    refine ⟨rfl, rfl, rfl, ?_⟩
    simp only [kill_lv, set_last]
    rfl
set_option maxHeartbeats 8000000 in
theorem h_a22 (u1 u2 n0 n1 s1 s2 t : List UInt8) (c0 c1 c2 : List Nd) (h0 : c0.length ≤ 1048576) (h1 : c1.length ≤ 1048576) (h2 : c2.length ≤ 1048576) : HFn Tryd.prog 21 [.sl 1 0 (c0.length + 1), .lst [.str u1, .str u2, .str s1, .str s2], .bool true, .str t, .int .i64 2, .ptr 0 0 0] [.row 1 [addV], .row 4 (nodesL c0 ++ [opn n0 2 (c1.length + 1)]), .row 4 (nodesL c1 ++ [opn n1 3 c2.length]), .row 4 (nodesL c2), .row 4 [], .row 4 []] [0] (fun r o => r = .sl 1 0 (c0.length + 1) ∧ o = [.row 1 [addV], .row 4 (nodesL c0 ++ [opn n0 2 (c1.length + 1)]), .row 4 (nodesL c1 ++ [opn n1 3 (c2.length + 1)]), .row 4 (nodesL c2 ++ [opn s1 4 1]), .row 4 ([opn s2 5 1]), .row 4 ([txC t])]) := by
  have hcs : ∀ y ∈ ([.str u1, .str u2, .str s1, .str s2] : List V), y.cells.length = 1 := fun y hy => by
    simp only [List.mem_cons, List.not_mem_nil, or_false] at hy
    rcases hy with rfl | rfl | rfl | rfl <;> rfl
  have h1 := h_a12 u2 n1 s1 s2 t c1 c2 h1 h2
  have hg := at_last c0 (opn n0 2 (c1.length + 1))
  have hg2 : (killL 5 (killL 4 (killL 3 (killL 2 (nodesL c0 ++ [opn n0 2 (c1.length + 1)])))))[0 + (((c0.length + 1 : Nat) : Int) - 1).toNat]? = some (.agg [.str n0, .lst [], .str [], .any]) := by
    simp only [kill_lv]
    exact at_last c0 _
  refine hfnE (T := Tryd.tt) Tryd.func21 rfl tt_all follows_all ?_ ?_ fun C vs hC hE => ?_
  · kernel_rfl
  · exact Nat.le_of_ble_eq_true (by kernel_rfl)
  conv => whnf
  repeat' (first | (refine brd_t (by first | assumption | omega) ?_; conv => whnf) | (refine brd_f (by first | assumption | omega) ?_; conv => whnf) | (refine ask (by first | assumption | omega) ?_; conv => whnf) | (refine fit64 (by omega) ?_; conv => whnf) | (refine fit (by simp only [kmin, kmax]; omega) ?_; conv => whnf) | (refine br_t (by assumption) ?_; conv => whnf) | (refine br_f (by assumption) ?_; conv => whnf) | (refine get_of (by assumption) ?_; conv => whnf) | (refine get_map (by assumption) ?_; conv => whnf) | (refine call_deep h1 hC hasBody_21 rfl ?_ ?_ (.sl 2 0 (c1.length + 1)) ?_ [.row 1 [addV], .row 4 (nodesL c1 ++ [opn n1 3 (c2.length + 1)]), .row 4 (nodesL c2 ++ [opn s1 4 1]), .row 4 ([opn s2 5 1]), .row 4 ([txC t])] rfl ?_ ?_; (simp [rnL, rnV, rho1]); exact ⟨⟨_, rfl, rnO_var (of_decide_eq_true rfl)⟩, ⟨_, rfl, rnO_lv _ (rn_opn (of_decide_eq_true rfl))⟩, ⟨_, rfl, rnO_nd _⟩, ⟨_, rfl, rnO_nil⟩, ⟨_, rfl, rnO_nil⟩, trivial⟩; (simp [rnV, rho1]); exact ⟨rnO_var (of_decide_eq_true rfl), rnO_lv _ (rn_opn (of_decide_eq_true rfl)), rnO_lv _ (rn_opn (of_decide_eq_true rfl)), rnO_opn (of_decide_eq_true rfl) (of_decide_eq_true rfl), rnO_txt t, trivial⟩; conv => whnf) | (refine ⟨hcs, ?_⟩; conv => whnf) | (refine get_of hg ?_; conv => whnf) | (refine get_of hg2 ?_; conv => whnf) | (refine brd_t rfl ?_; conv => whnf) | (refine brd_f (of_decide_eq_false rfl) ?_; conv => whnf) | (refine ask (Nat.le_refl 1) ?_; conv => whnf) | (refine ask (of_decide_eq_true rfl) ?_; conv => whnf) | (refine ask ⟨?_, ?_, ?_⟩ ?_; (simp [killL_length, nodesL_length]); (show _ + 1 ≤ 9223372036854775807; omega); (show (_ + 1) * 80 ≤ 140737488355328; omega); conv => whnf) | (refine draw_any hE [⟨0, [(0, none), (1, none), (2, none), (3, none), (4, none), (5, none), (6, none), (7, none), (8, none), (9, none), (10, none), (11, none), (12, none), (13, none)], some 14, [0, 1], [[], [0], [1], [0, 1]]⟩, ⟨0, [(15, none), (16, none)], some 17, [], [[]]⟩] ?_ ?_; decide +kernel; conv => whnf) | (refine draw_any hE [⟨0, [(0, none), (1, none), (2, none), (3, none), (4, none), (5, none), (6, none), (7, none), (8, none)], some 9, [0, 1, 2, 3], [[], [0], [3], [0, 3], [2, 3], [0, 2, 3], [1, 2, 3], [0, 1, 2, 3]]⟩, ⟨1, [(10, none), (11, some 0)], some 12, [], [[]]⟩, ⟨0, [(13, none)], none, [], [[]]⟩] ?_ ?_; decide +kernel; conv => whnf) | (refine draw_lex hE ?_ ?_; decide +kernel; conv => whnf) | (refine brd (fun h => ?_) (fun h => ?_) <;> conv => whnf) | (refine br (fun h => ?_) (fun h => ?_) <;> conv => whnf) | (refine ret_now hE ?_; conv => whnf) | (intro hlen; conv => whnf) | (refine seg_here ?_; conv => whnf) | (refine both ?_ ?_ <;> conv => whnf))
  all_goals
    refine hret_up (up_here (hret_now hE ?_))
    conv => whnf
    refine ⟨rfl, rfl, rfl, ?_⟩
    simp only [kill_lv, set_last]
    rfl
set_option maxHeartbeats 8000000 in
theorem h_a30 (u1 u2 u3 n0 n1 n2 t : List UInt8) (c0 c1 c2 c3 : List Nd) (h0 : c0.length ≤ 1048576) (h1 : c1.length ≤ 1048576) (h2 : c2.length ≤ 1048576) (h3 : c3.length ≤ 1048576) : HFn Tryd.prog 21 [.sl 1 0 (c0.length + 1), .lst [.str u1, .str u2, .str u3], .bool true, .str t, .int .i64 3, .ptr 0 0 0] [.row 1 [addV], .row 4 (nodesL c0 ++ [opn n0 2 (c1.length + 1)]), .row 4 (nodesL c1 ++ [opn n1 3 (c2.length + 1)]), .row 4 (nodesL c2 ++ [opn n2 4 c3.length]), .row 4 (nodesL c3)] [0] (fun r o => r = .sl 1 0 (c0.length + 1) ∧ o = [.row 1 [addV], .row 4 (nodesL c0 ++ [opn n0 2 (c1.length + 1)]), .row 4 (nodesL c1 ++ [opn n1 3 (c2.length + 1)]), .row 4 (nodesL c2 ++ [opn n2 4 (c3.length + 1)]), .row 4 (nodesL c3 ++ [txC t])]) := by
  have hcs : ∀ y ∈ ([.str u1, .str u2, .str u3] : List V), y.cells.length = 1 := fun y hy => by
    simp only [List.mem_cons, List.not_mem_nil, or_false] at hy
    rcases hy with rfl | rfl | rfl <;> rfl
  have h1 := h_a20 u2 u3 n1 n2 t c1 c2 c3 h1 h2 h3
  have hg := at_last c0 (opn n0 2 (c1.length + 1))
  have hg2 : (killL 4 (killL 3 (killL 2 (nodesL c0 ++ [opn n0 2 (c1.length + 1)]))))[0 + (((c0.length + 1 : Nat) : Int) - 1).toNat]? = some (.agg [.str n0, .lst [], .str [], .any]) := by
    simp only [kill_lv]
    exact at_last c0 _
  refine hfnE (T := Tryd.tt) Tryd.func21 rfl tt_all follows_all ?_ ?_ fun C vs hC hE => ?_
  · kernel_rfl
  · exact Nat.le_of_ble_eq_true (by kernel_rfl)
  conv => whnf
  repeat' (first | (refine brd_t (by first | assumption | omega) ?_; conv => whnf) | (refine brd_f (by first | assumption | omega) ?_; conv => whnf) | (refine ask (by first | assumption | omega) ?_; conv => whnf) | (refine fit64 (by omega) ?_; conv => whnf) | (refine fit (by simp only [kmin, kmax]; omega) ?_; conv => whnf) | (refine br_t (by assumption) ?_; conv => whnf) | (refine br_f (by assumption) ?_; conv => whnf) | (refine get_of (by assumption) ?_; conv => whnf) | (refine get_map (by assumption) ?_; conv => whnf) | (refine call_deep h1 hC hasBody_21 rfl ?_ ?_ (.sl 2 0 (c1.length + 1)) ?_ [.row 1 [addV], .row 4 (nodesL c1 ++ [opn n1 3 (c2.length + 1)]), .row 4 (nodesL c2 ++ [opn n2 4 (c3.length + 1)]), .row 4 (nodesL c3 ++ [txC t])] rfl ?_ ?_; (simp [rnL, rnV, rho1]); exact ⟨⟨_, rfl, rnO_var (of_decide_eq_true rfl)⟩, ⟨_, rfl, rnO_lv _ (rn_opn (of_decide_eq_true rfl))⟩, ⟨_, rfl, rnO_lv _ (rn_opn (of_decide_eq_true rfl))⟩, ⟨_, rfl, rnO_nd _⟩, trivial⟩; (simp [rnV, rho1]); exact ⟨rnO_var (of_decide_eq_true rfl), rnO_lv _ (rn_opn (of_decide_eq_true rfl)), rnO_lv _ (rn_opn (of_decide_eq_true rfl)), rnO_lv _ (rnV_nr _ ⟨trivial, trivial, trivial, trivial, trivial⟩), trivial⟩; conv => whnf) | (refine ⟨hcs, ?_⟩; conv => whnf) | (refine get_of hg ?_; conv => whnf) | (refine get_of hg2 ?_; conv => whnf) | (refine brd_t rfl ?_; conv => whnf) | (refine brd_f (of_decide_eq_false rfl) ?_; conv => whnf) | (refine ask (Nat.le_refl 1) ?_; conv => whnf) | (refine ask (of_decide_eq_true rfl) ?_; conv => whnf) | (refine ask ⟨?_, ?_, ?_⟩ ?_; (simp [killL_length, nodesL_length]); (show _ + 1 ≤ 9223372036854775807; omega); (show (_ + 1) * 80 ≤ 140737488355328; omega); conv => whnf) | (refine draw_any hE [⟨0, [(0, none), (1, none), (2, none), (3, none), (4, none), (5, none), (6, none), (7, none), (8, none), (9, none), (10, none), (11, none), (12, none), (13, none)], some 14, [0, 1], [[], [0], [1], [0, 1]]⟩, ⟨0, [(15, none), (16, none)], some 17, [], [[]]⟩] ?_ ?_; decide +kernel; conv => whnf) | (refine draw_any hE [⟨0, [(0, none), (1, none), (2, none), (3, none), (4, none), (5, none), (6, none), (7, none), (8, none)], some 9, [0, 1, 2, 3], [[], [0], [3], [0, 3], [2, 3], [0, 2, 3], [1, 2, 3], [0, 1, 2, 3]]⟩, ⟨1, [(10, none), (11, some 0)], some 12, [], [[]]⟩, ⟨0, [(13, none)], none, [], [[]]⟩] ?_ ?_; decide +kernel; conv => whnf) | (refine draw_lex hE ?_ ?_; decide +kernel; conv => whnf) | (refine brd (fun h => ?_) (fun h => ?_) <;> conv => whnf) | (refine br (fun h => ?_) (fun h => ?_) <;> conv => whnf) | (refine ret_now hE ?_; conv => whnf) | (intro hlen; conv => whnf) | (refine seg_here ?_; conv => whnf) | (refine both ?_ ?_ <;> conv => whnf))
  all_goals
    refine hret_up (up_here (hret_now hE ?_))
    conv => whnf
    refine ⟨rfl, rfl, rfl, ?_⟩
    simp only [kill_lv, set_last]
    rfl
set_option maxHeartbeats 8000000 in
theorem h_a31 (u1 u2 u3 n0 n1 n2 s1 t : List UInt8) (c0 c1 c2 c3 : List Nd) (h0 : c0.length ≤ 1048576) (h1 : c1.length ≤ 1048576) (h2 : c2.length ≤ 1048576) (h3 : c3.length ≤ 1048576) : HFn Tryd.prog 21 [.sl 1 0 (c0.length + 1), .lst [.str u1, .str u2, .str u3, .str s1], .bool true, .str t, .int .i64 3, .ptr 0 0 0] [.row 1 [addV], .row 4 (nodesL c0 ++ [opn n0 2 (c1.length + 1)]), .row 4 (nodesL c1 ++ [opn n1 3 (c2.length + 1)]), .row 4 (nodesL c2 ++ [opn n2 4 c3.length]), .row 4 (nodesL c3), .row 4 []] [0] (fun r o => r = .sl 1 0 (c0.length + 1) ∧ o = [.row 1 [addV], .row 4 (nodesL c0 ++ [opn n0 2 (c1.length + 1)]), .row 4 (nodesL c1 ++ [opn n1 3 (c2.length + 1)]), .row 4 (nodesL c2 ++ [opn n2 4 (c3.length + 1)]), .row 4 (nodesL c3 ++ [opn s1 5 1]), .row 4 ([txC t])]) := by
  have hcs : ∀ y ∈ ([.str u1, .str u2, .str u3, .str s1] : List V), y.cells.length = 1 := fun y hy => by
    simp only [List.mem_cons, List.not_mem_nil, or_false] at hy
    rcases hy with rfl | rfl | rfl | rfl <;> rfl
  have h1 := h_a21 u2 u3 n1 n2 s1 t c1 c2 c3 h1 h2 h3
  have hg := at_last c0 (opn n0 2 (c1.length + 1))
  have hg2 : (killL 5 (killL 4 (killL 3 (killL 2 (nodesL c0 ++ [opn n0 2 (c1.length + 1)])))))[0 + (((c0.length + 1 : Nat) : Int) - 1).toNat]? = some (.agg [.str n0, .lst [], .str [], .any]) := by
    simp only [kill_lv]
    exact at_last c0 _
  refine hfnE (T := Tryd.tt) Tryd.func21 rfl tt_all follows_all ?_ ?_ fun C vs hC hE => ?_
  · kernel_rfl
  · exact Nat.le_of_ble_eq_true (by kernel_rfl)
  conv => whnf
  repeat' (first | (refine brd_t (by first | assumption | omega) ?_; conv => whnf) | (refine brd_f (by first | assumption | omega) ?_; conv => whnf) | (refine ask (by first | assumption | omega) ?_; conv => whnf) | (refine fit64 (by omega) ?_; conv => whnf) | (refine fit (by simp only [kmin, kmax]; omega) ?_; conv => whnf) | (refine br_t (by assumption) ?_; conv => whnf) | (refine br_f (by assumption) ?_; conv => whnf) | (refine get_of (by assumption) ?_; conv => whnf) | (refine get_map (by assumption) ?_; conv => whnf) | (refine call_deep h1 hC hasBody_21 rfl ?_ ?_ (.sl 2 0 (c1.length + 1)) ?_ [.row 1 [addV], .row 4 (nodesL c1 ++ [opn n1 3 (c2.length + 1)]), .row 4 (nodesL c2 ++ [opn n2 4 (c3.length + 1)]), .row 4 (nodesL c3 ++ [opn s1 5 1]), .row 4 ([txC t])] rfl ?_ ?_; (simp [rnL, rnV, rho1]); exact ⟨⟨_, rfl, rnO_var (of_decide_eq_true rfl)⟩, ⟨_, rfl, rnO_lv _ (rn_opn (of_decide_eq_true rfl))⟩, ⟨_, rfl, rnO_lv _ (rn_opn (of_decide_eq_true rfl))⟩, ⟨_, rfl, rnO_nd _⟩, ⟨_, rfl, rnO_nil⟩, trivial⟩; (simp [rnV, rho1]); exact ⟨rnO_var (of_decide_eq_true rfl), rnO_lv _ (rn_opn (of_decide_eq_true rfl)), rnO_lv _ (rn_opn (of_decide_eq_true rfl)), rnO_lv _ (rn_opn (of_decide_eq_true rfl)), rnO_txt t, trivial⟩; conv => whnf) | (refine ⟨hcs, ?_⟩; conv => whnf) | (refine get_of hg ?_; conv => whnf) | (refine get_of hg2 ?_; conv => whnf) | (refine brd_t rfl ?_; conv => whnf) | (refine brd_f (of_decide_eq_false rfl) ?_; conv => whnf) | (refine ask (Nat.le_refl 1) ?_; conv => whnf) | (refine ask (of_decide_eq_true rfl) ?_; conv => whnf) | (refine ask ⟨?_, ?_, ?_⟩ ?_; (simp [killL_length, nodesL_length]); (show _ + 1 ≤ 9223372036854775807; omega); (show (_ + 1) * 80 ≤ 140737488355328; omega); conv => whnf) | (refine draw_any hE [⟨0, [(0, none), (1, none), (2, none), (3, none), (4, none), (5, none), (6, none), (7, none), (8, none), (9, none), (10, none), (11, none), (12, none), (13, none)], some 14, [0, 1], [[], [0], [1], [0, 1]]⟩, ⟨0, [(15, none), (16, none)], some 17, [], [[]]⟩] ?_ ?_; decide +kernel; conv => whnf) | (refine draw_any hE [⟨0, [(0, none), (1, none), (2, none), (3, none), (4, none), (5, none), (6, none), (7, none), (8, none)], some 9, [0, 1, 2, 3], [[], [0], [3], [0, 3], [2, 3], [0, 2, 3], [1, 2, 3], [0, 1, 2, 3]]⟩, ⟨1, [(10, none), (11, some 0)], some 12, [], [[]]⟩, ⟨0, [(13, none)], none, [], [[]]⟩] ?_ ?_; decide +kernel; conv => whnf) | (refine draw_lex hE ?_ ?_; decide +kernel; conv => whnf) | (refine brd (fun h => ?_) (fun h => ?_) <;> conv => whnf) | (refine br (fun h => ?_) (fun h => ?_) <;> conv => whnf) | (refine ret_now hE ?_; conv => whnf) | (intro hlen; conv => whnf) | (refine seg_here ?_; conv => whnf) | (refine both ?_ ?_ <;> conv => whnf))
  all_goals
    refine hret_up (up_here (hret_now hE ?_))
    conv => whnf
    refine ⟨rfl, rfl, rfl, ?_⟩
    simp only [kill_lv, set_last]
    rfl
set_option maxHeartbeats 8000000 in
theorem h_a40 (u1 u2 u3 u4 n0 n1 n2 n3 t : List UInt8) (c0 c1 c2 c3 c4 : List Nd) (h0 : c0.length ≤ 1048576) (h1 : c1.length ≤ 1048576) (h2 : c2.length ≤ 1048576) (h3 : c3.length ≤ 1048576) (h4 : c4.length ≤ 1048576) : HFn Tryd.prog 21 [.sl 1 0 (c0.length + 1), .lst [.str u1, .str u2, .str u3, .str u4], .bool true, .str t, .int .i64 4, .ptr 0 0 0] [.row 1 [addV], .row 4 (nodesL c0 ++ [opn n0 2 (c1.length + 1)]), .row 4 (nodesL c1 ++ [opn n1 3 (c2.length + 1)]), .row 4 (nodesL c2 ++ [opn n2 4 (c3.length + 1)]), .row 4 (nodesL c3 ++ [opn n3 5 c4.length]), .row 4 (nodesL c4)] [0] (fun r o => r = .sl 1 0 (c0.length + 1) ∧ o = [.row 1 [addV], .row 4 (nodesL c0 ++ [opn n0 2 (c1.length + 1)]), .row 4 (nodesL c1 ++ [opn n1 3 (c2.length + 1)]), .row 4 (nodesL c2 ++ [opn n2 4 (c3.length + 1)]), .row 4 (nodesL c3 ++ [opn n3 5 (c4.length + 1)]), .row 4 (nodesL c4 ++ [txC t])]) := by
  have hcs : ∀ y ∈ ([.str u1, .str u2, .str u3, .str u4] : List V), y.cells.length = 1 := fun y hy => by
    simp only [List.mem_cons, List.not_mem_nil, or_false] at hy
    rcases hy with rfl | rfl | rfl | rfl <;> rfl
  have h1 := h_a30 u2 u3 u4 n1 n2 n3 t c1 c2 c3 c4 h1 h2 h3 h4
  have hg := at_last c0 (opn n0 2 (c1.length + 1))
  have hg2 : (killL 5 (killL 4 (killL 3 (killL 2 (nodesL c0 ++ [opn n0 2 (c1.length + 1)])))))[0 + (((c0.length + 1 : Nat) : Int) - 1).toNat]? = some (.agg [.str n0, .lst [], .str [], .any]) := by
    simp only [kill_lv]
    exact at_last c0 _
  refine hfnE (T := Tryd.tt) Tryd.func21 rfl tt_all follows_all ?_ ?_ fun C vs hC hE => ?_
  · kernel_rfl
  · exact Nat.le_of_ble_eq_true (by kernel_rfl)
  conv => whnf
  repeat' (first | (refine brd_t (by first | assumption | omega) ?_; conv => whnf) | (refine brd_f (by first | assumption | omega) ?_; conv => whnf) | (refine ask (by first | assumption | omega) ?_; conv => whnf) | (refine fit64 (by omega) ?_; conv => whnf) | (refine fit (by simp only [kmin, kmax]; omega) ?_; conv => whnf) | (refine br_t (by assumption) ?_; conv => whnf) | (refine br_f (by assumption) ?_; conv => whnf) | (refine get_of (by assumption) ?_; conv => whnf) | (refine get_map (by assumption) ?_; conv => whnf) | (refine call_deep h1 hC hasBody_21 rfl ?_ ?_ (.sl 2 0 (c1.length + 1)) ?_ [.row 1 [addV], .row 4 (nodesL c1 ++ [opn n1 3 (c2.length + 1)]), .row 4 (nodesL c2 ++ [opn n2 4 (c3.length + 1)]), .row 4 (nodesL c3 ++ [opn n3 5 (c4.length + 1)]), .row 4 (nodesL c4 ++ [txC t])] rfl ?_ ?_; (simp [rnL, rnV, rho1]); exact ⟨⟨_, rfl, rnO_var (of_decide_eq_true rfl)⟩, ⟨_, rfl, rnO_lv _ (rn_opn (of_decide_eq_true rfl))⟩, ⟨_, rfl, rnO_lv _ (rn_opn (of_decide_eq_true rfl))⟩, ⟨_, rfl, rnO_lv _ (rn_opn (of_decide_eq_true rfl))⟩, ⟨_, rfl, rnO_nd _⟩, trivial⟩; (simp [rnV, rho1]); exact ⟨rnO_var (of_decide_eq_true rfl), rnO_lv _ (rn_opn (of_decide_eq_true rfl)), rnO_lv _ (rn_opn (of_decide_eq_true rfl)), rnO_lv _ (rn_opn (of_decide_eq_true rfl)), rnO_lv _ (rnV_nr _ ⟨trivial, trivial, trivial, trivial, trivial⟩), trivial⟩; conv => whnf) | (refine ⟨hcs, ?_⟩; conv => whnf) | (refine get_of hg ?_; conv => whnf) | (refine get_of hg2 ?_; conv => whnf) | (refine brd_t rfl ?_; conv => whnf) | (refine brd_f (of_decide_eq_false rfl) ?_; conv => whnf) | (refine ask (Nat.le_refl 1) ?_; conv => whnf) | (refine ask (of_decide_eq_true rfl) ?_; conv => whnf) | (refine ask ⟨?_, ?_, ?_⟩ ?_; (simp [killL_length, nodesL_length]); (show _ + 1 ≤ 9223372036854775807; omega); (show (_ + 1) * 80 ≤ 140737488355328; omega); conv => whnf) | (refine draw_any hE [⟨0, [(0, none), (1, none), (2, none), (3, none), (4, none), (5, none), (6, none), (7, none), (8, none), (9, none), (10, none), (11, none), (12, none), (13, none)], some 14, [0, 1], [[], [0], [1], [0, 1]]⟩, ⟨0, [(15, none), (16, none)], some 17, [], [[]]⟩] ?_ ?_; decide +kernel; conv => whnf) | (refine draw_any hE [⟨0, [(0, none), (1, none), (2, none), (3, none), (4, none), (5, none), (6, none), (7, none), (8, none)], some 9, [0, 1, 2, 3], [[], [0], [3], [0, 3], [2, 3], [0, 2, 3], [1, 2, 3], [0, 1, 2, 3]]⟩, ⟨1, [(10, none), (11, some 0)], some 12, [], [[]]⟩, ⟨0, [(13, none)], none, [], [[]]⟩] ?_ ?_; decide +kernel; conv => whnf) | (refine draw_lex hE ?_ ?_; decide +kernel; conv => whnf) | (refine brd (fun h => ?_) (fun h => ?_) <;> conv => whnf) | (refine br (fun h => ?_) (fun h => ?_) <;> conv => whnf) | (refine ret_now hE ?_; conv => whnf) | (intro hlen; conv => whnf) | (refine seg_here ?_; conv => whnf) | (refine both ?_ ?_ <;> conv => whnf))
  all_goals
    refine hret_up (up_here (hret_now hE ?_))
    conv => whnf
    refine ⟨rfl, rfl, rfl, ?_⟩
    simp only [kill_lv, set_last]
    rfl
end Go.Proofs.YtkkcmobnhiiacaaDoor
