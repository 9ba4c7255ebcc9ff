/- The document's within, walked. No conditions. -/
import Derived.Test.YtbdogoccjcifnaaDoorTrB
import Derived.Test.YtbdogoccjcifnaaDoorTrD
/-! The document's closures over the list, walked. No conditions. -/
set_option linter.unusedSimpArgs false
set_option linter.unusedVariables false
set_option maxRecDepth 100000
namespace Go.Proofs.YtbdogoccjcifnaaDoor
open Go.RowKit

def flV (r : Rc) : V := .agg [.int .i64 ((r.inn : Int) - 1), .str r.name, .lst (r.atts.map attA), .str r.text, .lst [], .bool r.opn, .bool (!r.elem)]
theorem flV_nr (r : Rc) : (flV r).nr := ⟨trivial, trivial, trivial, trivial, trivial, trivial, trivial, trivial⟩
theorem fls_nr (l : List Rc) : nrL (l.map flV) := by
  rw [nrL_mem]
  intro x hx
  obtain ⟨c, _, rfl⟩ := List.mem_map.1 hx
  exact flV_nr c
theorem cells_fl (l : List Rc) : ∀ y ∈ l.map flV, y.cells.length = 7 := fun y hy => by obtain ⟨q, _, rfl⟩ := List.mem_map.1 hy; rfl
def lastI (p : Rc → Bool) (A : List Rc) : Int := match lastIdx p A with | none => -1 | some j => j
theorem lastI_hit {p : Rc → Bool} {A : List Rc} {i : Nat} {r : Rc} (h : A[i]? = some r) (hp : p r = true) (hj : ∀ (j : Nat) (x : Rc), i + 1 ≤ j → A[j]? = some x → p x = false) : lastI p A = i := by
  unfold lastI
  rw [lastIdx_eq h hp (fun k y hk hy => hj k y hk hy)]
theorem lastI_none {p : Rc → Bool} {A : List Rc} (hj : ∀ (j : Nat) (x : Rc), 0 ≤ j → A[j]? = some x → p x = false) : lastI p A = -1 := by
  unfold lastI
  rw [lastIdx_eq_none fun k y hy => hj k y (Nat.zero_le _) hy]
theorem inm_fn (A : List Rc) (hA : A.length ≤ 1000) : Fn1 Tryd.prog 12 [.rp [.lst (A.map flV)]] (fun r => r = .int .i64 (lastI (fun r => r.opn) A)) := by
  have hlm : (A.map flV).length = A.length := by simp
  refine fn1E (T := Tryd.tt) Tryd.func12 rfl tt_all follows_all ?_ ?_ fun C hC hE => ?_
  · kernel_rfl
  · exact Nat.le_of_ble_eq_true (by kernel_rfl)
  conv => whnf
  repeat' (first | (refine brd_t (by first | assumption | omega) ?_; conv => whnf) | (refine brd_f (by first | assumption | omega) ?_; conv => whnf) | (refine ask (by first | assumption | omega) ?_; conv => whnf) | (refine fit64 (by omega) ?_; conv => whnf) | (refine fit (by simp only [kmin, kmax]; omega) ?_; conv => whnf) | (refine br_t (by assumption) ?_; conv => whnf) | (refine br_f (by assumption) ?_; conv => whnf) | (refine get_of (by assumption) ?_; conv => whnf) | (refine get_map (by assumption) ?_; conv => whnf) | (refine draw_lex hE ?_ ?_; decide +kernel; conv => whnf) | (refine brd (fun h => ?_) (fun h => ?_) <;> conv => whnf) | (refine br (fun h => ?_) (fun h => ?_) <;> conv => whnf) | (refine ret_now hE ?_; conv => whnf) | (intro hlen; conv => whnf) | (refine seg_here ?_; conv => whnf) | (refine both ?_ ?_ <;> conv => whnf))
  refine loopE (fun i : Nat => ⟨16, [(0, .rp [.lst (A.map flV)]), (2, .int .i64 ((i : Int) - 1))], []⟩) (fun i => i ≤ A.length ∧ ∀ (j : Nat) (x : Rc), i ≤ j → A[j]? = some x → x.opn = false) (fun i => i) A.length hE ?_ ?_ ⟨Nat.le_refl _, fun j x h1 h2 => absurd (List.getElem?_eq_some_iff.1 h2).1 (by omega)⟩ ?_
  · kernel_rfl
  · refine at_keep [0, 2] ?_
    conv => whnf
    rw [hlm]
    rfl
  intro i hi
  obtain ⟨hi, hj⟩ := hi
  cases i with
  | zero =>
    conv => whnf
    repeat' (first | (refine brd_t (by first | assumption | omega) ?_; conv => whnf) | (refine brd_f (by first | assumption | omega) ?_; conv => whnf) | (refine ask (by first | assumption | omega) ?_; conv => whnf) | (refine fit64 (by omega) ?_; conv => whnf) | (refine fit (by simp only [kmin, kmax]; omega) ?_; conv => whnf) | (refine br_t (by assumption) ?_; conv => whnf) | (refine br_f (by assumption) ?_; conv => whnf) | (refine get_of (by assumption) ?_; conv => whnf) | (refine get_map (by assumption) ?_; conv => whnf) | (refine draw_lex hE ?_ ?_; decide +kernel; conv => whnf) | (refine brd (fun h => ?_) (fun h => ?_) <;> conv => whnf) | (refine br (fun h => ?_) (fun h => ?_) <;> conv => whnf) | (refine ret_now hE ?_; conv => whnf) | (intro hlen; conv => whnf) | (refine seg_here ?_; conv => whnf) | (refine both ?_ ?_ <;> conv => whnf))
    exact ⟨rfl, by rw [lastI_none hj]⟩
  | succ i =>
    obtain ⟨r, hr⟩ : ∃ x, A[i]? = some x := ⟨_, List.getElem?_eq_getElem (by omega)⟩
    have hg : (A.map flV)[Int.toNat (((i + 1 : Nat) : Int) - 1)]? = some (.agg [.int .i64 ((r.inn : Int) - 1), .str r.name, .lst (r.atts.map attA), .str r.text, .lst [], .bool r.opn, .bool (!r.elem)]) := by
      rw [show Int.toNat (((i + 1 : Nat) : Int) - 1) = i by omega, List.getElem?_map, hr]; rfl
    conv => whnf
    repeat' (first | (refine brd_t (by first | assumption | omega) ?_; conv => whnf) | (refine brd_f (by first | assumption | omega) ?_; conv => whnf) | (refine ask (by first | assumption | omega) ?_; conv => whnf) | (refine fit64 (by omega) ?_; conv => whnf) | (refine fit (by simp only [kmin, kmax]; omega) ?_; conv => whnf) | (refine br_t (by assumption) ?_; conv => whnf) | (refine br_f (by assumption) ?_; conv => whnf) | (refine get_of (by assumption) ?_; conv => whnf) | (refine get_map (by assumption) ?_; conv => whnf) | (refine get_of hg ?_; conv => whnf) | (refine draw_lex hE ?_ ?_; decide +kernel; conv => whnf) | (refine brd (fun h => ?_) (fun h => ?_) <;> conv => whnf) | (refine br (fun h => ?_) (fun h => ?_) <;> conv => whnf) | (refine ret_now hE ?_; conv => whnf) | (intro hlen; conv => whnf) | (refine seg_here ?_; conv => whnf) | (refine both ?_ ?_ <;> conv => whnf))
    · refine ⟨rfl, ?_⟩
      rw [lastI_hit hr (by assumption) hj]
      congr 1
      omega
    · refine next_keep [0, 2] i ⟨by omega, fun j y h1 h2 => ?_⟩ (by omega) ?_
      · by_cases e : j = i
        · subst e; rw [hr] at h2; cases h2; assumption
        · exact hj j y (by omega) h2
      · conv => whnf
        rw [show ((i + 1 : Nat) : Int) - 1 - 1 = (i : Int) - 1 by omega]
theorem lst_fn (A : List Rc) (nm : List UInt8) (hA : A.length ≤ 1000) : Fn1 Tryd.prog 13 [.str nm, .rp [.lst (A.map flV)]] (fun r => r = .int .i64 (lastI (isN nm) A)) := by
  have hlm : (A.map flV).length = A.length := by simp
  refine fn1E (T := Tryd.tt) Tryd.func13 rfl tt_all follows_all ?_ ?_ fun C hC hE => ?_
  · kernel_rfl
  · exact Nat.le_of_ble_eq_true (by kernel_rfl)
  conv => whnf
  repeat' (first | (refine brd_t (by first | assumption | omega) ?_; conv => whnf) | (refine brd_f (by first | assumption | omega) ?_; conv => whnf) | (refine ask (by first | assumption | omega) ?_; conv => whnf) | (refine fit64 (by omega) ?_; conv => whnf) | (refine fit (by simp only [kmin, kmax]; omega) ?_; conv => whnf) | (refine br_t (by assumption) ?_; conv => whnf) | (refine br_f (by assumption) ?_; conv => whnf) | (refine get_of (by assumption) ?_; conv => whnf) | (refine get_map (by assumption) ?_; conv => whnf) | (refine draw_lex hE ?_ ?_; decide +kernel; conv => whnf) | (refine brd (fun h => ?_) (fun h => ?_) <;> conv => whnf) | (refine br (fun h => ?_) (fun h => ?_) <;> conv => whnf) | (refine ret_now hE ?_; conv => whnf) | (intro hlen; conv => whnf) | (refine seg_here ?_; conv => whnf) | (refine both ?_ ?_ <;> conv => whnf))
  refine loopE (fun i : Nat => ⟨28, [(0, .str nm), (1, .rp [.lst (A.map flV)]), (4, .int .i64 ((i : Int) - 1))], []⟩) (fun i => i ≤ A.length ∧ ∀ (j : Nat) (x : Rc), i ≤ j → A[j]? = some x → isN nm x = false) (fun i => i) A.length hE ?_ ?_ ⟨Nat.le_refl _, fun j x h1 h2 => absurd (List.getElem?_eq_some_iff.1 h2).1 (by omega)⟩ ?_
  · kernel_rfl
  · refine at_keep [0, 1, 4] ?_
    conv => whnf
    rw [hlm]
    rfl
  intro i hi
  obtain ⟨hi, hj⟩ := hi
  cases i with
  | zero =>
    conv => whnf
    repeat' (first | (refine brd_t (by first | assumption | omega) ?_; conv => whnf) | (refine brd_f (by first | assumption | omega) ?_; conv => whnf) | (refine ask (by first | assumption | omega) ?_; conv => whnf) | (refine fit64 (by omega) ?_; conv => whnf) | (refine fit (by simp only [kmin, kmax]; omega) ?_; conv => whnf) | (refine br_t (by assumption) ?_; conv => whnf) | (refine br_f (by assumption) ?_; conv => whnf) | (refine get_of (by assumption) ?_; conv => whnf) | (refine get_map (by assumption) ?_; conv => whnf) | (refine draw_lex hE ?_ ?_; decide +kernel; conv => whnf) | (refine brd (fun h => ?_) (fun h => ?_) <;> conv => whnf) | (refine br (fun h => ?_) (fun h => ?_) <;> conv => whnf) | (refine ret_now hE ?_; conv => whnf) | (intro hlen; conv => whnf) | (refine seg_here ?_; conv => whnf) | (refine both ?_ ?_ <;> conv => whnf))
    exact ⟨rfl, by rw [lastI_none hj]⟩
  | succ i =>
    obtain ⟨r, hr⟩ : ∃ x, A[i]? = some x := ⟨_, List.getElem?_eq_getElem (by omega)⟩
    have hg : (A.map flV)[Int.toNat (((i + 1 : Nat) : Int) - 1)]? = some (.agg [.int .i64 ((r.inn : Int) - 1), .str r.name, .lst (r.atts.map attA), .str r.text, .lst [], .bool r.opn, .bool (!r.elem)]) := by
      rw [show Int.toNat (((i + 1 : Nat) : Int) - 1) = i by omega, List.getElem?_map, hr]; rfl
    have hnx : isN nm r = false → i ≤ A.length ∧ ∀ (j : Nat) (x : Rc), i ≤ j → A[j]? = some x → isN nm x = false := fun h => ⟨by omega, fun j y h1 h2 => by
      by_cases e : j = i
      · subst e; rw [hr] at h2; cases h2; exact h
      · exact hj j y (by omega) h2⟩
    conv => whnf
    repeat' (first | (refine brd_t (by first | assumption | omega) ?_; conv => whnf) | (refine brd_f (by first | assumption | omega) ?_; conv => whnf) | (refine ask (by first | assumption | omega) ?_; conv => whnf) | (refine fit64 (by omega) ?_; conv => whnf) | (refine fit (by simp only [kmin, kmax]; omega) ?_; conv => whnf) | (refine br_t (by assumption) ?_; conv => whnf) | (refine br_f (by assumption) ?_; conv => whnf) | (refine get_of (by assumption) ?_; conv => whnf) | (refine get_map (by assumption) ?_; conv => whnf) | (refine get_of hg ?_; conv => whnf) | (refine draw_lex hE ?_ ?_; decide +kernel; conv => whnf) | (refine brd (fun h => ?_) (fun h => ?_) <;> conv => whnf) | (refine br (fun h => ?_) (fun h => ?_) <;> conv => whnf) | (refine ret_now hE ?_; conv => whnf) | (intro hlen; conv => whnf) | (refine seg_here ?_; conv => whnf) | (refine both ?_ ?_ <;> conv => whnf))
    all_goals first
      | (refine ⟨rfl, ?_⟩; rw [lastI_hit hr (by simp only [isN, Bool.and_eq_true, beq_iff_eq]; exact ⟨by assumption, by assumption⟩) hj]; congr 1; omega)
      | (refine next_keep [0, 1, 4] i (hnx (by unfold isN; simp [*])) (by omega) ?_; (conv => whnf); rw [show ((i + 1 : Nat) : Int) - 1 - 1 = (i : Int) - 1 by omega])
theorem see_all {h : List (Option Ob)} {A : List Rc} (h0 : h[0]? = some (some (.row 1 [.sl 1 0 A.length]))) (h1 : h[1]? = some (some (.row 7 (A.map flV)))) : See h (.ptr 0 0 0) (.rp [.lst (A.map flV)]) := by
  refine .ptr 0 1 _ [] _ h0 (by simp) fun j c d hc hd => ?_
  match j with
  | 0 =>
    simp [V.cells] at hc hd
    subst hc; subst hd
    refine .sl 1 7 _ (A.map flV) _ h1 (by simp) (by simp) (fun i x y hx hy => ?_) (fun i j x y c d hx hy hc hd => ?_)
    · rw [hx] at hy; cases hy; rfl
    · rw [hx] at hy; cases hy
      rw [hc] at hd; cases hd
      refine .same _ ?_
      exact nr_cells (nrL_get (A.map flV) i x (fls_nr A) hx) j c hc
  | j + 1 => simp at hd
/-- The list, closed from j on, up to k. -/
def midF (j k : Nat) (A : List Rc) : List Rc := (shutF j A).take k ++ A.drop k
theorem midF_len (j k : Nat) (A : List Rc) : (midF j k A).length = A.length := by
  unfold midF
  rw [List.length_append, List.length_take, List.length_drop, shutF_len]
  omega
theorem midF_start (j : Nat) (A : List Rc) : midF j j A = A := by
  unfold midF shutF
  by_cases h : j ≤ A.length
  · rw [List.take_append_of_le_length (by simp; omega), List.take_take, Nat.min_self, List.take_append_drop]
  · have h1 : A.drop j = [] := List.drop_of_length_le (by omega)
    rw [h1]
    simp only [List.map_nil, List.append_nil]
    rw [List.take_take, Nat.min_self]
    exact List.take_of_length_le (by omega)
theorem midF_end (j : Nat) (A : List Rc) : midF j A.length A = shutF j A := by
  unfold midF
  rw [List.drop_length, List.append_nil]
  exact List.take_of_length_le (by rw [shutF_len]; exact Nat.le_refl _)
theorem midF_get {j k : Nat} {A : List Rc} {r : Rc} (hr : A[k]? = some r) : (midF j k A)[k]? = some r := by
  unfold midF
  have hlt := (List.getElem?_eq_some_iff.1 hr).1
  rw [List.getElem?_append_right (by rw [List.length_take, shutF_len]; omega), List.length_take, shutF_len, List.getElem?_drop]
  rw [show k + (k - min k A.length) = k by omega]
  exact hr
theorem shutF_at {j k : Nat} {A : List Rc} {r : Rc} (hj : j ≤ k) (hr : A[k]? = some r) : (shutF j A)[k]? = some (shutR r) := by
  unfold shutF
  have hlt := (List.getElem?_eq_some_iff.1 hr).1
  rw [List.getElem?_append_right (by rw [List.length_take]; omega), List.length_take, List.getElem?_map, List.getElem?_drop]
  rw [show j + (k - min j A.length) = k by omega, hr]
  rfl
theorem midF_next {j k : Nat} {A : List Rc} {r : Rc} (hj : j ≤ k) (hr : A[k]? = some r) : (midF j k A).set k (shutR r) = midF j (k + 1) A := by
  have hlt := (List.getElem?_eq_some_iff.1 hr).1
  unfold midF
  rw [List.set_append_right _ _ (by rw [List.length_take, shutF_len]; omega), List.length_take, shutF_len, show k - min k A.length = 0 by omega]
  have h1 : A.drop k = r :: A.drop (k + 1) := by
    obtain ⟨_, e⟩ := List.getElem?_eq_some_iff.1 hr
    rw [← e]; exact List.drop_eq_getElem_cons hlt
  rw [h1, List.set_cons_zero, List.take_add_one, shutF_at hj hr]
  simp
section
variable {C : Ctx} {σ : ES} {fop : Operand} {args : List Operand} {K : V → ES → Prop}
theorem call_inm (A : List Rc) (hA : A.length ≤ 1000) (hC : C.P = Tryd.prog) (he : evalC σ fop args = some (12, [.ptr 0 0 0])) (h0 : σ.heap[0]? = some (some (.row 1 [.sl 1 0 A.length]))) (h1 : σ.heap[1]? = some (some (.row 7 (A.map flV))))
    (hK : K (.int .i64 (lastI (fun r => r.opn) A)) σ) : CallN C fop args 12 [.ptr 0 0 0] K σ := by
  refine call_see (inm_fn A hA) hC hasBody_12 he rfl (fun i x y hx hy => ?_) rfl hK
  match i with
  | 0 =>
    simp only [List.getElem?_cons_zero, Option.some.injEq] at hx hy
    subst hx; subst hy
    exact see_all h0 h1
  | i + 1 => simp at hx
theorem call_lst (A : List Rc) (nm : List UInt8) (hA : A.length ≤ 1000) (hC : C.P = Tryd.prog) (he : evalC σ fop args = some (13, [.str nm, .ptr 0 0 0])) (h0 : σ.heap[0]? = some (some (.row 1 [.sl 1 0 A.length]))) (h1 : σ.heap[1]? = some (some (.row 7 (A.map flV))))
    (hK : K (.int .i64 (lastI (isN nm) A)) σ) : CallN C fop args 13 [.str nm, .ptr 0 0 0] K σ := by
  refine call_see (lst_fn A nm hA) hC hasBody_13 he rfl (fun i x y hx hy => ?_) rfl hK
  match i with
  | 0 =>
    simp only [List.getElem?_cons_zero, Option.some.injEq] at hx hy
    subst hx; subst hy
    exact .same _ trivial
  | 1 =>
    simp only [List.getElem?_cons_succ, List.getElem?_cons_zero, Option.some.injEq] at hx hy
    subst hx; subst hy
    exact see_all h0 h1
  | i + 2 => simp at hx
theorem lastI_shut (A : List Rc) (nm : List UInt8) : (lastI (isN nm) A < 0 ∧ lastN A nm = none) ∨ ∃ j : Nat, lastI (isN nm) A = j ∧ lastN A nm = some j ∧ j < A.length := by
  unfold lastI lastN
  cases h : lastIdx (isN nm) A with
  | none => exact .inl ⟨by decide, rfl⟩
  | some j => exact .inr ⟨j, rfl, rfl, lastIdx_lt h⟩
/-- The call of shut. -/
theorem call_shut (A : List Rc) (nm : List UInt8) (hA : A.length ≤ 1000) (hE : EOk Tryd.tt C) (hC : C.P = Tryd.prog) (ks : List Nat) (hks : (ks.all fun k => Nat.blt k σ.n) = true) (he : evalC σ fop args = some (14, [.int .i64 (lastI (isN nm) A), .ptr 0 0 0])) {x2 x3 : Option Ob} {T : List (Option Ob)}
    (hh : σ.heap = some (.row 1 [.sl 1 0 A.length]) :: some (.row 7 (A.map flV)) :: x2 :: x3 :: none :: T)
    (hK : zipK ks (ks.map (lookU σ.u)) fun u => fH (some (.row 1 [.sl 1 0 (shutO A (lastN A nm)).length]) :: some (.row 7 ((shutO A (lastN A nm)).map flV)) :: x2 :: x3 :: none :: T) fun h => K (.tup []) ⟨σ.n, u, h⟩) : CallN C fop args 14 [.int .i64 (lastI (isN nm) A), .ptr 0 0 0] K σ := by
  obtain ⟨n, u, h⟩ := σ
  simp only at hh hK hks
  subst hh
  rw [zipK_eq, fH_eq, shutO_len] at hK
  refine call_in hE hC Tryd.func14 rfl hasBody_14 (by kernel_rfl) he (Nat.le_of_ble_eq_true (by kernel_rfl)) 4 ks rfl hks fun vs => ?_
  generalize ks.map (lookU u) = L at *
  rcases lastI_shut A nm with ⟨h0, hl⟩ | ⟨j, hj, hl, hlt⟩
  · rw [hl] at hK
    generalize lastI (isN nm) A = m at *
    conv => whnf
    repeat' (first | (refine brd_t (by first | assumption | omega) ?_; conv => whnf) | (refine brd_f (by first | assumption | omega) ?_; conv => whnf) | (refine ask (by first | assumption | omega) ?_; conv => whnf) | (refine fit64 (by omega) ?_; conv => whnf) | (refine fit (by simp only [kmin, kmax]; omega) ?_; conv => whnf) | (refine br_t (by assumption) ?_; conv => whnf) | (refine br_f (by assumption) ?_; conv => whnf) | (refine get_of (by assumption) ?_; conv => whnf) | (refine get_map (by assumption) ?_; conv => whnf) | (refine fH_go ?_; conv => whnf) | (refine fL0_go (fH_go ?_); conv => whnf) | (refine inret_at hE ?_; conv => whnf) | (refine draw_lex hE ?_ ?_; decide +kernel; conv => whnf) | (refine brd (fun h => ?_) (fun h => ?_) <;> conv => whnf) | (refine br (fun h => ?_) (fun h => ?_) <;> conv => whnf) | (refine ret_now hE ?_; conv => whnf) | (intro hlen; conv => whnf) | (refine seg_here ?_; conv => whnf) | (refine both ?_ ?_ <;> conv => whnf))
    exact ⟨rfl, hK⟩
  · rw [hl] at hK
    rw [hj]
    conv => whnf
    repeat' (first | (refine brd_t (by first | assumption | omega) ?_; conv => whnf) | (refine brd_f (by first | assumption | omega) ?_; conv => whnf) | (refine ask (by first | assumption | omega) ?_; conv => whnf) | (refine fit64 (by omega) ?_; conv => whnf) | (refine fit (by simp only [kmin, kmax]; omega) ?_; conv => whnf) | (refine br_t (by assumption) ?_; conv => whnf) | (refine br_f (by assumption) ?_; conv => whnf) | (refine get_of (by assumption) ?_; conv => whnf) | (refine get_map (by assumption) ?_; conv => whnf) | (refine fH_go ?_; conv => whnf) | (refine fL0_go (fH_go ?_); conv => whnf) | (refine draw_lex hE ?_ ?_; decide +kernel; conv => whnf) | (refine brd (fun h => ?_) (fun h => ?_) <;> conv => whnf) | (refine br (fun h => ?_) (fun h => ?_) <;> conv => whnf) | (refine ret_now hE ?_; conv => whnf) | (intro hlen; conv => whnf) | (refine seg_here ?_; conv => whnf) | (refine both ?_ ?_ <;> conv => whnf))
    refine loopE (fun k : Nat => ⟨17, [(1, .ptr 0 0 0), (3, .int .i64 k)], some (.row 1 [.sl 1 0 A.length]) :: some (.row 7 ((midF j k A).map flV)) :: x2 :: x3 :: some (.hid vs L) :: T⟩) (fun k => j ≤ k ∧ k ≤ A.length) (fun k => A.length - k) j hE ?_ ?_ ⟨Nat.le_refl _, by omega⟩ ?_
    · kernel_rfl
    · refine up_at [1, 3] ?_ rfl
      show _ = (⟨17, [(1, .ptr 0 0 0), (3, .int .i64 (j : Int))], some (.row 1 [.sl 1 0 A.length]) :: some (.row 7 ((midF j j A).map flV)) :: x2 :: x3 :: some (.hid vs L) :: T⟩ : ES)
      rw [midF_start]
      rfl
    rintro k ⟨hjk, hk⟩
    have hml : ((midF j k A).map flV).length = A.length := by rw [List.length_map, midF_len]
    by_cases hkl : k < A.length
    · obtain ⟨r, hr⟩ : ∃ r, A[k]? = some r := ⟨_, List.getElem?_eq_getElem hkl⟩
      have hg : ((midF j k A).map flV)[0 + Int.toNat (k : Int)]? = some (.agg [.int .i64 ((r.inn : Int) - 1), .str r.name, .lst (r.atts.map attA), .str r.text, .lst [], .bool r.opn, .bool (!r.elem)]) := by
        rw [Nat.zero_add, Int.toNat_natCast, List.getElem?_map, midF_get hr]; rfl
      have hg2 := hg
      conv => whnf
      repeat' (first | (refine brd_t (by first | assumption | omega) ?_; conv => whnf) | (refine brd_f (by first | assumption | omega) ?_; conv => whnf) | (refine ask (by first | assumption | omega) ?_; conv => whnf) | (refine fit64 (by omega) ?_; conv => whnf) | (refine fit (by simp only [kmin, kmax]; omega) ?_; conv => whnf) | (refine br_t (by assumption) ?_; conv => whnf) | (refine br_f (by assumption) ?_; conv => whnf) | (refine get_of (by assumption) ?_; conv => whnf) | (refine get_map (by assumption) ?_; conv => whnf) | (refine fH_go ?_; conv => whnf) | (refine fL0_go (fH_go ?_); conv => whnf) | (refine get_of hg ?_; conv => whnf) | (refine draw_lex hE ?_ ?_; decide +kernel; conv => whnf) | (refine brd (fun h => ?_) (fun h => ?_) <;> conv => whnf) | (refine br (fun h => ?_) (fun h => ?_) <;> conv => whnf) | (refine ret_now hE ?_; conv => whnf) | (intro hlen; conv => whnf) | (refine seg_here ?_; conv => whnf) | (refine both ?_ ?_ <;> conv => whnf))
      refine up_at [1, 3] ?_ ⟨k + 1, ⟨by omega, hkl⟩, (show A.length - (k + 1) < A.length - k by omega), rfl⟩
      show (⟨17, [(1, .ptr 0 0 0), (3, .int .i64 ((k : Int) + 1))], some (.row 1 [.sl 1 0 A.length]) :: some (.row 7 (((midF j k A).map flV).set (0 + Int.toNat (k : Int)) (flV (shutR r)))) :: x2 :: x3 :: some (.hid vs L) :: T⟩ : ES) = _
      rw [Nat.zero_add, Int.toNat_natCast, ← List.map_set, midF_next hjk hr]
      rfl
    · obtain rfl : k = A.length := by omega
      rw [midF_end]
      conv => whnf
      repeat' (first | (refine brd_t (by first | assumption | omega) ?_; conv => whnf) | (refine brd_f (by first | assumption | omega) ?_; conv => whnf) | (refine ask (by first | assumption | omega) ?_; conv => whnf) | (refine fit64 (by omega) ?_; conv => whnf) | (refine fit (by simp only [kmin, kmax]; omega) ?_; conv => whnf) | (refine br_t (by assumption) ?_; conv => whnf) | (refine br_f (by assumption) ?_; conv => whnf) | (refine get_of (by assumption) ?_; conv => whnf) | (refine get_map (by assumption) ?_; conv => whnf) | (refine fH_go ?_; conv => whnf) | (refine fL0_go (fH_go ?_); conv => whnf) | (refine inret_at hE ?_; conv => whnf) | (refine draw_lex hE ?_ ?_; decide +kernel; conv => whnf) | (refine brd (fun h => ?_) (fun h => ?_) <;> conv => whnf) | (refine br (fun h => ?_) (fun h => ?_) <;> conv => whnf) | (refine ret_now hE ?_; conv => whnf) | (intro hlen; conv => whnf) | (refine seg_here ?_; conv => whnf) | (refine both ?_ ?_ <;> conv => whnf))
      exact ⟨rfl, hK⟩
end
end Go.Proofs.YtbdogoccjcifnaaDoor

/-! The document's within, walked. No conditions. -/
namespace Go.Proofs.YtbdogoccjcifnaaDoor
open Go.RowKit

def dN (r : Rc) (ps : List Nd) : Nd := .mk r.name r.atts r.text ps
def treeD (A : List Rc) : Nat → Nat → List Nd
  | 0, _ => []
  | f + 1, p => (kids p A).map fun c => dN (recO A c) (treeD A f c)
def obW (A : List Rc) : Ob := .row 1 [.fn 16 [.rp [.lst (A.map flV)], .ptr 0 0 0]]
def kidsK (p k : Nat) (A : List Rc) : List Nat := kids p (A.take k)
theorem kidsK_next {p k : Nat} {A : List Rc} {r : Rc} (hr : A[k]? = some r) : kidsK p (k + 1) A = kidsK p k A ++ if r.inn = p then [k + 1] else [] := by
  have hlt := (List.getElem?_eq_some_iff.1 hr).1
  unfold kidsK
  rw [List.take_add_one, hr]
  simp only [Option.toList_some]
  rw [kids_app, List.length_take, Nat.min_eq_left (by omega)]
set_option maxHeartbeats 16000000 in
theorem with_fn {A : List Rc} (hW : Wf A) (hA : A.length ≤ 900) : ∀ (f p : Nat), A.length + 1 < p + f → p < A.length + 1 →
    HFn Tryd.prog 16 [.int .i64 ((p : Int) - 1), .rp [.lst (A.map flV)], .ptr 0 0 0] [obW A] [0] (fun r o => r = .lst (nodesL (treeD A f p)) ∧ o = [obW A])
  | 0, p, h1, h2 => by omega
  | f + 1, p, h1, h2 => by
    have hlm : (A.map flV).length = A.length := by simp
    refine hfnE (T := Tryd.tt) Tryd.func16 rfl tt_all follows_all ?_ ?_ fun C vs hC hE => ?_
    · kernel_rfl
    · exact Nat.le_of_ble_eq_true (by kernel_rfl)
    unfold obW
    conv => whnf
    repeat' (first | (refine brd_t (by first | assumption | omega) ?_; conv => whnf) | (refine brd_f (by first | assumption | omega) ?_; conv => whnf) | (refine ask (by first | assumption | omega) ?_; conv => whnf) | (refine fit64 (by omega) ?_; conv => whnf) | (refine fit (by simp only [kmin, kmax]; omega) ?_; conv => whnf) | (refine br_t (by assumption) ?_; conv => whnf) | (refine br_f (by assumption) ?_; conv => whnf) | (refine get_of (by assumption) ?_; conv => whnf) | (refine get_map (by assumption) ?_; conv => whnf) | (refine draw_lex hE ?_ ?_; decide +kernel; conv => whnf) | (refine brd (fun h => ?_) (fun h => ?_) <;> conv => whnf) | (refine br (fun h => ?_) (fun h => ?_) <;> conv => whnf) | (refine ret_now hE ?_; conv => whnf) | (intro hlen; conv => whnf) | (refine seg_here ?_; conv => whnf) | (refine both ?_ ?_ <;> conv => whnf))
    refine loopE (fun k : Nat => ⟨32, [(0, .int .i64 ((p : Int) - 1)), (2, .ptr 0 0 0), (5, .sl 2 0 (kidsK p k A).length), (9, .lst (A.map flV)), (10, .int .i64 (A.map flV).length), (11, .int .i64 k)],
        [some (.row 1 [.fn 16 [.rp [.lst (A.map flV)], .ptr 0 0 0]]), some (.hid vs [.int .i64 ((p : Int) - 1), .rp [.lst (A.map flV)], .ptr 0 0 0]), some (.row 4 (nodesL ((kidsK p k A).map fun c => dN (recO A c) (treeD A f c))))]⟩)
      (fun k => k ≤ A.length) (fun k => A.length - k) 0 hE ?_ ?_ (Nat.zero_le _) ?_
    · kernel_rfl
    · exact up_own 5 4 rfl rfl (at_keep [0, 2, 5, 9, 10, 11] rfl)
    intro k hk
    have hol : (nodesL ((kidsK p k A).map fun c => dN (recO A c) (treeD A f c))).length = (kidsK p k A).length := by rw [nodesL_length, List.length_map]
    have hkl : (kidsK p k A).length ≤ A.length := by
      have := kids_len p (A.take k)
      unfold kidsK
      rw [List.length_take] at this
      omega
    by_cases hlt : k < A.length
    · obtain ⟨r, hr⟩ : ∃ r, A[k]? = some r := ⟨_, List.getElem?_eq_getElem hlt⟩
      have hg : (A.map flV)[k]? = some (.agg [.int .i64 ((r.inn : Int) - 1), .str r.name, .lst (r.atts.map attA), .str r.text, .lst [], .bool r.opn, .bool (!r.elem)]) := by rw [List.getElem?_map, hr]; rfl
      have hnx := kidsK_next (p := p) hr
      have hinn := hW.inn k r hr
      have hnn := fun l : List Nat => nodesL_nr (l.map fun c => dN (recO A c) (treeD A f c))
      by_cases hip : r.inn = p
      · rw [if_pos hip] at hnx
        have ih := with_fn hW hA f (k + 1) (by omega) (by omega)
        rw [show (((k + 1 : Nat) : Int) - 1) = (k : Int) by omega] at ih
        conv => whnf
        repeat' (first | (refine brd_t (by first | assumption | omega) ?_; conv => whnf) | (refine brd_f (by first | assumption | omega) ?_; conv => whnf) | (refine ask (by first | assumption | omega) ?_; conv => whnf) | (refine fit64 (by omega) ?_; conv => whnf) | (refine fit (by simp only [kmin, kmax]; omega) ?_; conv => whnf) | (refine br_t (by assumption) ?_; conv => whnf) | (refine br_f (by assumption) ?_; conv => whnf) | (refine get_of (by assumption) ?_; conv => whnf) | (refine get_map (by assumption) ?_; conv => whnf) | (refine get_of hg ?_; conv => whnf) | (refine draw_lex hE ?_ ?_; decide +kernel; conv => whnf) | (refine brd (fun h => ?_) (fun h => ?_) <;> conv => whnf) | (refine br (fun h => ?_) (fun h => ?_) <;> conv => whnf) | (refine ret_now hE ?_; conv => whnf) | (intro hlen; conv => whnf) | (refine seg_here ?_; conv => whnf) | (refine both ?_ ?_ <;> conv => whnf))
        refine call_id ih hC (by kernel_rfl) rfl (by simp [rnL, rnV, rnV_nr]) ?_ [] ?_ ?_ (rnV_nr _ trivial) ?_ rfl ?_
        · intro j o ho
          match j with
          | 0 =>
            simp at ho
            subst ho
            exact ⟨rfl, by simp [rnO, rnL, rnV, obW]⟩
          | j + 1 => simp at ho
        · intro j hj _
          simp at hj
          simp [hj]
        · intro j hj
          simp at hj
        · intro j o ho
          match j with
          | 0 =>
            simp at ho
            subst ho
            simp [rnO, rnL, rnV, obW]
          | j + 1 => simp at ho
        have hR0 : ∀ x, x = nodeA (dN (recO A (k + 1)) (treeD A f (k + 1))) → List.take (kidsK p k A).length (List.drop 0 (nodesL ((kidsK p k A).map fun c => dN (recO A c) (treeD A f c)))) ++ List.take 1 (List.drop 0 [x]) = nodesL ((kidsK p (k + 1) A).map fun c => dN (recO A c) (treeD A f c)) := by
          rintro x rfl
          rw [List.drop_zero, List.drop_zero, List.take_of_length_le (by omega), hnx, List.map_append, nodesL_append]
          rfl
        have hl1 : ∀ x : V, (kidsK p k A).length + (List.take 1 (List.drop 0 [x])).length = (kidsK p (k + 1) A).length := fun x => by rw [hnx, List.length_append]; rfl
        have hrec : recO A (k + 1) = r := recO_at hr
        conv => whnf
        repeat' (first | (refine brd_t (by first | assumption | omega) ?_; conv => whnf) | (refine brd_f (by first | assumption | omega) ?_; conv => whnf) | (refine ask (by first | assumption | omega) ?_; conv => whnf) | (refine fit64 (by omega) ?_; conv => whnf) | (refine fit (by simp only [kmin, kmax]; omega) ?_; conv => whnf) | (refine br_t (by assumption) ?_; conv => whnf) | (refine br_f (by assumption) ?_; conv => whnf) | (refine get_of (by assumption) ?_; conv => whnf) | (refine get_map (by assumption) ?_; conv => whnf) | (refine get_of hg ?_; conv => whnf) | (refine ask (Nat.le_refl 1) ?_; conv => whnf) | (refine ask ⟨?_, ?_, ?_⟩ ?_; (show 0 + (kidsK p k A).length ≤ _; omega); (show (kidsK p k A).length + 1 ≤ 9223372036854775807; omega); (show ((kidsK p k A).length + 1) * 80 ≤ 140737488355328; omega); conv => whnf) | (refine draw_lex hE ?_ ?_; decide +kernel; conv => whnf) | (refine brd (fun h => ?_) (fun h => ?_) <;> conv => whnf) | (refine br (fun h => ?_) (fun h => ?_) <;> conv => whnf) | (refine ret_now hE ?_; conv => whnf) | (intro hlen; conv => whnf) | (refine seg_here ?_; conv => whnf) | (refine both ?_ ?_ <;> conv => whnf))
        refine next_drop [0, 2, 5, 9, 10, 11] [3, 4, 5] (k + 1) hlt (by omega) ?_
        conv => whnf
        rw [hl1, hR0 _ (by rw [hrec]; exact (nodeA_mk _ _ _ _).symm)]
        simp only [kill_nrL _ (hnn _)]
        rfl
      · rw [if_neg hip, List.append_nil] at hnx
        conv => whnf
        repeat' (first | (refine brd_t (by first | assumption | omega) ?_; conv => whnf) | (refine brd_f (by first | assumption | omega) ?_; conv => whnf) | (refine ask (by first | assumption | omega) ?_; conv => whnf) | (refine fit64 (by omega) ?_; conv => whnf) | (refine fit (by simp only [kmin, kmax]; omega) ?_; conv => whnf) | (refine br_t (by assumption) ?_; conv => whnf) | (refine br_f (by assumption) ?_; conv => whnf) | (refine get_of (by assumption) ?_; conv => whnf) | (refine get_map (by assumption) ?_; conv => whnf) | (refine get_of hg ?_; conv => whnf) | (refine draw_lex hE ?_ ?_; decide +kernel; conv => whnf) | (refine brd (fun h => ?_) (fun h => ?_) <;> conv => whnf) | (refine br (fun h => ?_) (fun h => ?_) <;> conv => whnf) | (refine ret_now hE ?_; conv => whnf) | (intro hlen; conv => whnf) | (refine seg_here ?_; conv => whnf) | (refine both ?_ ?_ <;> conv => whnf))
        all_goals first
          | (refine next_drop [0, 2, 5, 9, 10, 11] [3] (k + 1) hlt (by omega) ?_; (conv => whnf); rw [hnx, kill_nrL 3 (hnn _)]; rfl)
          | (exfalso; omega)
    · have hk0 : kidsK p k A = kids p A := by
        unfold kidsK
        rw [List.take_of_length_le (by omega)]
      rw [hk0] at hol hkl ⊢
      conv => whnf
      repeat' (first | (refine brd_t (by first | assumption | omega) ?_; conv => whnf) | (refine brd_f (by first | assumption | omega) ?_; conv => whnf) | (refine ask (by first | assumption | omega) ?_; conv => whnf) | (refine fit64 (by omega) ?_; conv => whnf) | (refine fit (by simp only [kmin, kmax]; omega) ?_; conv => whnf) | (refine br_t (by assumption) ?_; conv => whnf) | (refine br_f (by assumption) ?_; conv => whnf) | (refine get_of (by assumption) ?_; conv => whnf) | (refine get_map (by assumption) ?_; conv => whnf) | (refine hret_up (up_frzK 2 4 [] rfl (nodesL_nr _) rfl hol.symm rfl (up_here (hret_now hE ?_)))) | (refine draw_lex hE ?_ ?_; decide +kernel; conv => whnf) | (refine brd (fun h => ?_) (fun h => ?_) <;> conv => whnf) | (refine br (fun h => ?_) (fun h => ?_) <;> conv => whnf) | (refine ret_now hE ?_; conv => whnf) | (intro hlen; conv => whnf) | (refine seg_here ?_; conv => whnf) | (refine both ?_ ?_ <;> conv => whnf))
      conv => whnf
      exact ⟨rfl, rfl, rfl, rfl⟩
end Go.Proofs.YtbdogoccjcifnaaDoor
