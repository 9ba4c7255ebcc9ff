/- Blanks in nodes: plain laws, and the small functions that space.Nodes reaches, walked. No conditions. -/
import Derived.Test.YteekfmflecgjmaaSpace
set_option linter.unusedSimpArgs false
set_option linter.unusedVariables false
set_option maxRecDepth 100000
namespace Go.Proofs.Yteekfmflecgjmaa
open Go.RowKit

def blockL : List (List UInt8) := [[112], [100, 105, 118], [117, 108], [111, 108], [108, 105], [104, 49], [104, 50], [116, 97, 98, 108, 101], [98, 108, 111, 99, 107, 113, 117, 111, 116, 101], [98, 114], [104, 114]]
def endsSp (s : List UInt8) : Bool := decide (s.getLast? = some 32)
/-- A text behind nodes: texts side by side are one. -/
def addTx (out : List Nd) (s : List UInt8) : List Nd := match out.getLast? with
  | some (.mk n _ t _) => if n = [] then out.dropLast ++ [.mk [] [] (t ++ s) []] else out ++ [.mk [] [] s []]
  | none => [.mk [] [] s []]
mutual
def spN : Nd → List Nd → Bool → List Nd × Bool
  | .mk n a t ps, out, ah => if n = [] then (if spText ah t = [] then (out, ah) else (addTx out (spText ah t), endsSp (spText ah t))) else (out ++ [.mk n a t (spL ps [] (ah || decide (n ∈ blockL))).1], (spL ps [] (ah || decide (n ∈ blockL))).2 || decide (n ∈ blockL))
def spL : List Nd → List Nd → Bool → List Nd × Bool
  | [], out, ah => (out, ah)
  | x :: xs, out, ah => spL xs (spN x out ah).1 (spN x out ah).2
end
theorem spL_step {l : List Nd} {k : Nat} {x : Nd} (hx : l[k]? = some x) (out : List Nd) (ah : Bool) : spL (l.drop k) out ah = spL (l.drop (k + 1)) (spN x out ah).1 (spN x out ah).2 := by
  obtain ⟨hlt, rfl⟩ := List.getElem?_eq_some_iff.1 hx
  rw [List.drop_eq_getElem_cons hlt, spL]
theorem spL_end {l : List Nd} {k : Nat} (hk : l.length ≤ k) (out : List Nd) (ah : Bool) : spL (l.drop k) out ah = (out, ah) := by
  rw [List.drop_eq_nil_of_le hk, spL]
/-- Texts among the nodes have nothing but their text. -/
def plainT (out : List Nd) : Prop := ∀ x ∈ out, x.name = [] → ∃ t, x = .mk [] [] t []
theorem addTx_nil (s : List UInt8) : addTx [] s = [.mk [] [] s []] := rfl
theorem addTx_elem {o : List Nd} {n : List UInt8} {a : List Atr} {t : List UInt8} {ps : List Nd} (hn : ¬ n = []) (s : List UInt8) : addTx (o ++ [.mk n a t ps]) s = o ++ [.mk n a t ps] ++ [.mk [] [] s []] := by
  unfold addTx
  rw [List.getLast?_concat]
  simp only
  rw [if_neg hn]
theorem addTx_text (o : List Nd) (t s : List UInt8) : addTx (o ++ [.mk [] [] t []]) s = o ++ [.mk [] [] (t ++ s) []] := by
  unfold addTx
  rw [List.getLast?_concat]
  simp
theorem plain_add {out : List Nd} (h : plainT out) (x : Nd) (hx : x.name = [] → ∃ t, x = .mk [] [] t []) : plainT (out ++ [x]) := by
  intro y hy
  rcases List.mem_append.1 hy with hy | hy
  · exact h y hy
  · simp at hy; subst hy; exact hx
theorem plain_left {o : List Nd} {x : Nd} (h : plainT (o ++ [x])) : plainT o := fun y hy => h y (List.mem_append.2 (.inl hy))
theorem last_cases (out : List Nd) : out = [] ∨ ∃ o x, out = o ++ [x] := by
  rcases List.eq_nil_or_concat out with h | ⟨o, x, h⟩
  · exact .inl h
  · exact .inr ⟨o, x, by simpa using h⟩
theorem szL_take {l : List Nd} {k : Nat} {x : Nd} (hx : l[k]? = some x) : szL (l.take (k + 1)) = szL (l.take k) + szN x := by
  rw [szL_sum, szL_sum, List.take_add_one, hx, List.map_append, List.sum_append]
  simp
theorem szL_take_le (l : List Nd) (k : Nat) : szL (l.take k) ≤ szL l := by
  rw [szL_sum, szL_sum]
  induction l generalizing k with
  | nil => simp
  | cons x l ih =>
    cases k with
    | zero => simp
    | succ k => simp only [List.take_succ_cons, List.map_cons, List.sum_cons]; have := ih k; omega
theorem spText_len : ∀ (s : List UInt8) (a : Bool), (spText a s).length ≤ s.length
  | [], a => by simp [spText]
  | c :: r, a => by
    have h1 := spText_len r true
    have h2 := spText_len r false
    unfold spText
    (repeat' split) <;> simp only [List.length_cons] <;> omega
theorem index_str (l : List (List UInt8)) (q : List UInt8) : Fn1 Try.prog 80 [.lst (l.map V.str), .str q] (fun r => r = .int .i64 (idxOf (fun x => decide (q = x)) l)) := by
  refine fn1E (T := Try.tt) Try.func80 rfl tt_all follows_all ?_ ?_ fun C hC hE => ?_
  · kernel_rfl
  · exact Nat.le_of_ble_eq_true (by kernel_rfl)
  conv => whnf
  intro hl
  conv => whnf
  refine loopE (fun k : Nat => ⟨19, [(0, .lst (l.map V.str)), (1, .str q), (7, .int .i64 (l.map V.str).length), (8, .int .i64 k)], []⟩) (fun k => k ≤ l.length ∧ ∀ j < k, ∀ x, l[j]? = some x → decide (q = x) = false) (fun k => l.length - k) 0 hE ?_ ?_ ?_ ?_
  · kernel_rfl
  · exact at_keep [0, 1, 7, 8] rfl
  · exact ⟨Nat.zero_le _, fun j hj => by omega⟩
  intro k hkj
  obtain ⟨hk, hj⟩ := hkj
  have hlm : (l.map V.str).length = l.length := by simp
  by_cases hlt : k < l.length
  · obtain ⟨x, hx⟩ : ∃ x, l[k]? = some x := ⟨_, List.getElem?_eq_getElem hlt⟩
    conv => whnf
    repeat' (first | (refine brd_t (by first | assumption | omega) ?_; conv => whnf) | (refine brd_f (by first | assumption | omega) ?_; conv => whnf) | (refine ask (by first | assumption | omega) ?_; conv => whnf) | (refine fit64 (by omega) ?_; conv => whnf) | (refine fit (by simp only [kmin, kmax]; omega) ?_; conv => whnf) | (refine br_t (by assumption) ?_; conv => whnf) | (refine br_f (by assumption) ?_; conv => whnf) | (refine get_of (by assumption) ?_; conv => whnf) | (refine get_map (by assumption) ?_; conv => whnf) | (refine brd (fun h => ?_) (fun h => ?_) <;> conv => whnf) | (refine br (fun h => ?_) (fun h => ?_) <;> conv => whnf) | (refine ret_now hE ?_; conv => whnf) | (intro hlen; conv => whnf))
    · exact ⟨rfl, by rw [idxOf_hit hx (decide_eq_true (by assumption)) hj]⟩
    · refine next_keep [0, 1, 7, 8] (k + 1) ⟨hlt, ?_⟩ (by omega) rfl
      intro j hjk y hy
      by_cases e : j = k
      · subst e; rw [hx] at hy; cases hy; exact decide_eq_false (by assumption)
      · exact hj j (by omega) y hy
  · conv => whnf
    repeat' (first | (refine brd_t (by first | assumption | omega) ?_; conv => whnf) | (refine brd_f (by first | assumption | omega) ?_; conv => whnf) | (refine ask (by first | assumption | omega) ?_; conv => whnf) | (refine fit64 (by omega) ?_; conv => whnf) | (refine fit (by simp only [kmin, kmax]; omega) ?_; conv => whnf) | (refine br_t (by assumption) ?_; conv => whnf) | (refine br_f (by assumption) ?_; conv => whnf) | (refine get_of (by assumption) ?_; conv => whnf) | (refine get_map (by assumption) ?_; conv => whnf) | (refine brd (fun h => ?_) (fun h => ?_) <;> conv => whnf) | (refine br (fun h => ?_) (fun h => ?_) <;> conv => whnf) | (refine ret_now hE ?_; conv => whnf) | (intro hlen; conv => whnf))
    exact ⟨rfl, by rw [idxOf_miss (fun x hx => by obtain ⟨j, hj'⟩ := List.mem_iff_getElem?.1 hx; exact hj j (by have := (List.getElem?_eq_some_iff.1 hj').1; omega) x hj')]⟩

theorem contains_str (l : List (List UInt8)) (q : List UInt8) : Fn1 Try.prog 67 [.lst (l.map V.str), .str q] (fun r => r = .bool (decide (q ∈ l))) := by
  have ha := idxOf_any (fun x => decide (q = x)) l
  have hb : decide (q ∈ l) = l.any (fun x => decide (q = x)) := by rw [Bool.eq_iff_iff]; simp
  refine fn1E (T := Try.tt) Try.func67 rfl tt_all follows_all ?_ ?_ fun C hC hE => ?_
  · kernel_rfl
  · exact Nat.le_of_ble_eq_true (by kernel_rfl)
  conv => whnf
  repeat' (first | (refine brd_t (by first | assumption | omega) ?_; conv => whnf) | (refine brd_f (by first | assumption | omega) ?_; conv => whnf) | (refine ask (by first | assumption | omega) ?_; conv => whnf) | (refine fit64 (by omega) ?_; conv => whnf) | (refine fit (by simp only [kmin, kmax]; omega) ?_; conv => whnf) | (refine br_t (by assumption) ?_; conv => whnf) | (refine br_f (by assumption) ?_; conv => whnf) | (refine get_of (by assumption) ?_; conv => whnf) | (refine get_map (by assumption) ?_; conv => whnf) | (refine call_eq (index_str _ _) hC hasBody_80 ?_ ?_ ?_; kernel_rfl; kernel_rfl; conv => whnf) | (refine callq_eq (index_str _ _) hC hasBody_80 ?_ ?_ ?_; kernel_rfl; kernel_rfl; conv => whnf) | (refine brd (fun h => ?_) (fun h => ?_) <;> conv => whnf) | (refine br (fun h => ?_) (fun h => ?_) <;> conv => whnf) | (refine ret_now hE ?_; conv => whnf) | (intro hlen; conv => whnf))
  all_goals exact ⟨rfl, by rw [hb, ← ha]; congr 1; first | exact (decide_eq_true (by assumption)).symm | exact (decide_eq_false (by assumption)).symm⟩

theorem sp_block (s : List UInt8) : Fn1 Try.prog 46 [.str s] (fun r => r = .bool (decide (s ∈ blockL))) := by
  refine fn1E (T := Try.tt) Try.func46 rfl tt_all follows_all ?_ ?_ fun C hC hE => ?_
  · kernel_rfl
  · exact Nat.le_of_ble_eq_true (by kernel_rfl)
  conv => whnf
  refine call_up (up_freeze 0 (z := 1) (els := blockL.map V.str) rfl (nrB_nrL _ rfl) (up_here ?_))
  conv => whnf
  repeat' (first | (refine brd_t (by first | assumption | omega) ?_; conv => whnf) | (refine brd_f (by first | assumption | omega) ?_; conv => whnf) | (refine ask (by first | assumption | omega) ?_; conv => whnf) | (refine fit64 (by omega) ?_; conv => whnf) | (refine fit (by simp only [kmin, kmax]; omega) ?_; conv => whnf) | (refine br_t (by assumption) ?_; conv => whnf) | (refine br_f (by assumption) ?_; conv => whnf) | (refine get_of (by assumption) ?_; conv => whnf) | (refine get_map (by assumption) ?_; conv => whnf) | (refine call_eq (contains_str blockL s) hC hasBody_67 ?_ ?_ ?_; kernel_rfl; kernel_rfl; conv => whnf) | (refine callq_eq (contains_str blockL s) hC hasBody_67 ?_ ?_ ?_; kernel_rfl; kernel_rfl; conv => whnf) | (refine brd (fun h => ?_) (fun h => ?_) <;> conv => whnf) | (refine br (fun h => ?_) (fun h => ?_) <;> conv => whnf) | (refine ret_now hE ?_; conv => whnf) | (intro hlen; conv => whnf))
  all_goals exact ⟨rfl, by congr 1; exact Eq.symm (by assumption)⟩
theorem one_of (q : List UInt8) (L : List (List UInt8)) : Fn1 Try.prog 51 [.str q, .lst (L.map V.str)] (fun r => r = .bool (decide (q ∈ L))) := by
  have hlm : (L.map V.str).length = L.length := by simp
  refine fn1E (T := Try.tt) Try.func51 rfl tt_all follows_all ?_ ?_ fun C hC hE => ?_
  · kernel_rfl
  · exact Nat.le_of_ble_eq_true (by kernel_rfl)
  conv => whnf
  intro hl
  conv => whnf
  refine loopE (fun k : Nat => ⟨17, [(0, .str q), (7, .lst (L.map V.str)), (8, .int .i64 (L.map V.str).length), (9, .int .i64 k)], []⟩) (fun k => k ≤ L.length ∧ ∀ j < k, ∀ x, L[j]? = some x → x ≠ q) (fun k => L.length - k) 0 hE ?_ ?_ ⟨Nat.zero_le _, fun j hj => by omega⟩ ?_
  · kernel_rfl
  · exact at_keep [0, 7, 8, 9] rfl
  intro k hk
  obtain ⟨hk, hj⟩ := hk
  by_cases hlt : k < L.length
  · obtain ⟨x, hx⟩ : ∃ x, L[k]? = some x := ⟨_, List.getElem?_eq_getElem hlt⟩
    conv => whnf
    repeat' (first | (refine brd_t (by first | assumption | omega) ?_; conv => whnf) | (refine brd_f (by first | assumption | omega) ?_; conv => whnf) | (refine ask (by first | assumption | omega) ?_; conv => whnf) | (refine fit64 (by omega) ?_; conv => whnf) | (refine fit (by simp only [kmin, kmax]; omega) ?_; conv => whnf) | (refine br_t (by assumption) ?_; conv => whnf) | (refine br_f (by assumption) ?_; conv => whnf) | (refine get_of (by assumption) ?_; conv => whnf) | (refine get_map (by assumption) ?_; conv => whnf) | (refine brd (fun h => ?_) (fun h => ?_) <;> conv => whnf) | (refine br (fun h => ?_) (fun h => ?_) <;> conv => whnf) | (refine ret_now hE ?_; conv => whnf) | (intro hlen; conv => whnf))
    · refine ⟨rfl, ?_⟩
      have h : q = x := by assumption
      rw [h, decide_eq_true (List.mem_of_getElem? hx)]
    · refine next_keep [0, 7, 8, 9] (k + 1) ⟨hlt, fun j hjk x' hx' => ?_⟩ (by omega) rfl
      by_cases e : j = k
      · subst e; rw [hx] at hx'; cases hx'; exact fun h => absurd h.symm (by assumption)
      · exact hj j (by omega) x' hx'
  · conv => whnf
    repeat' (first | (refine brd_t (by first | assumption | omega) ?_; conv => whnf) | (refine brd_f (by first | assumption | omega) ?_; conv => whnf) | (refine ask (by first | assumption | omega) ?_; conv => whnf) | (refine fit64 (by omega) ?_; conv => whnf) | (refine fit (by simp only [kmin, kmax]; omega) ?_; conv => whnf) | (refine br_t (by assumption) ?_; conv => whnf) | (refine br_f (by assumption) ?_; conv => whnf) | (refine get_of (by assumption) ?_; conv => whnf) | (refine get_map (by assumption) ?_; conv => whnf) | (refine brd (fun h => ?_) (fun h => ?_) <;> conv => whnf) | (refine br (fun h => ?_) (fun h => ?_) <;> conv => whnf) | (refine ret_now hE ?_; conv => whnf) | (intro hlen; conv => whnf))
    refine ⟨rfl, ?_⟩
    rw [decide_eq_false]
    intro hm
    obtain ⟨j, hj'⟩ := List.mem_iff_getElem?.1 hm
    exact hj j (by have := (List.getElem?_eq_some_iff.1 hj').1; omega) q hj' rfl
theorem has_suffix (s : List UInt8) (hs : s ≠ []) : Fn1 Try.prog 49 [.str s, .str [32]] (fun r => r = .bool (endsSp s)) := by
  have hl : 0 < s.length := List.length_pos_iff.2 hs
  obtain ⟨o, c, rfl⟩ : ∃ o c, s = o ++ [c] := by
    rcases List.eq_nil_or_concat s with h | ⟨o, c, h⟩
    · exact absurd h hs
    · exact ⟨o, c, by simpa using h⟩
  have hd : List.drop (((o ++ [c]).length : Int) - (([32] : List UInt8).length : Nat)).toNat (o ++ [c]) = [c] := by
    have : (((o ++ [c]).length : Int) - (([32] : List UInt8).length : Nat)).toNat = o.length := by simp
    rw [this, List.drop_left]
  have he : endsSp (o ++ [c]) = decide (c = 32) := by simp [endsSp]
  have hin : Fn1 Try.prog 71 [.str (o ++ [c]), .str [32]] (fun r => r = .bool (endsSp (o ++ [c]))) := by
    refine fn1E (T := Try.tt) Try.func71 rfl tt_all follows_all ?_ ?_ fun C hC hE => ?_
    · kernel_rfl
    · exact Nat.le_of_ble_eq_true (by kernel_rfl)
    conv => whnf
    repeat' (first | (refine brd_t (by first | assumption | omega) ?_; conv => whnf) | (refine brd_f (by first | assumption | omega) ?_; conv => whnf) | (refine ask (by first | assumption | omega) ?_; conv => whnf) | (refine fit64 (by omega) ?_; conv => whnf) | (refine fit (by simp only [kmin, kmax]; omega) ?_; conv => whnf) | (refine br_t (by assumption) ?_; conv => whnf) | (refine br_f (by assumption) ?_; conv => whnf) | (refine get_of (by assumption) ?_; conv => whnf) | (refine get_map (by assumption) ?_; conv => whnf) | (refine brd (fun h => ?_) (fun h => ?_) <;> conv => whnf) | (refine br (fun h => ?_) (fun h => ?_) <;> conv => whnf) | (refine ret_now hE ?_; conv => whnf) | (intro hlen; conv => whnf))
    · refine ⟨rfl, congrArg V.bool ?_⟩
      have h : List.drop (((o ++ [c]).length : Int) - (([32] : List UInt8).length : Nat)).toNat (o ++ [c]) = [32] := by assumption
      rw [hd] at h
      rw [he, decide_eq_true (by simpa using h)]
    · refine ⟨rfl, congrArg V.bool ?_⟩
      have h : ¬ List.drop (((o ++ [c]).length : Int) - (([32] : List UInt8).length : Nat)).toNat (o ++ [c]) = [32] := by assumption
      rw [hd] at h
      rw [he, decide_eq_false (by simpa using h)]
    · exfalso
      have h : ¬ (((([32] : List UInt8).length : Nat) : Int) ≤ ((o ++ [c]).length : Nat)) := by assumption
      apply h
      simp
      omega
  refine fn1E (T := Try.tt) Try.func49 rfl tt_all follows_all ?_ ?_ fun C hC hE => ?_
  · kernel_rfl
  · exact Nat.le_of_ble_eq_true (by kernel_rfl)
  conv => whnf
  repeat' (first | (refine brd_t (by first | assumption | omega) ?_; conv => whnf) | (refine brd_f (by first | assumption | omega) ?_; conv => whnf) | (refine ask (by first | assumption | omega) ?_; conv => whnf) | (refine fit64 (by omega) ?_; conv => whnf) | (refine fit (by simp only [kmin, kmax]; omega) ?_; conv => whnf) | (refine br_t (by assumption) ?_; conv => whnf) | (refine br_f (by assumption) ?_; conv => whnf) | (refine get_of (by assumption) ?_; conv => whnf) | (refine get_map (by assumption) ?_; conv => whnf) | (refine call_eq hin hC (by kernel_rfl) ?_ ?_ ?_; kernel_rfl; kernel_rfl; conv => whnf) | (refine brd (fun h => ?_) (fun h => ?_) <;> conv => whnf) | (refine br (fun h => ?_) (fun h => ?_) <;> conv => whnf) | (refine ret_now hE ?_; conv => whnf) | (intro hlen; conv => whnf))
  all_goals exact ⟨rfl, congrArg V.bool (Eq.symm (by assumption))⟩
theorem clone_atts (l : List Atr) (hl : l.length * 32 ≤ 140737488351232) : Fn1 Try.prog 47 [.lst (l.map attA)] (fun r => r = .lst (l.map attA)) := by
  have hlm : (l.map attA).length = l.length := by simp
  have hkl : killL 0 (List.take 0 (List.drop 0 []) ++ l.map attA) = l.map attA := by simp only [List.drop_nil, List.take_nil, List.nil_append, kill_atts]
  refine fn1_nl ?_
  refine fn1E (T := Try.tt) Try.func47 rfl tt_all follows_all ?_ ?_ fun C hC hE => ?_
  · kernel_rfl
  · exact Nat.le_of_ble_eq_true (by kernel_rfl)
  conv => whnf
  repeat' (first | (refine brd_t (by first | assumption | omega) ?_; conv => whnf) | (refine brd_f (by first | assumption | omega) ?_; conv => whnf) | (refine ask (by first | assumption | omega) ?_; conv => whnf) | (refine fit64 (by omega) ?_; conv => whnf) | (refine fit (by simp only [kmin, kmax]; omega) ?_; conv => whnf) | (refine br_t (by assumption) ?_; conv => whnf) | (refine br_f (by assumption) ?_; conv => whnf) | (refine get_of (by assumption) ?_; conv => whnf) | (refine get_map (by assumption) ?_; conv => whnf) | (refine ⟨cells_att l, ?_⟩; conv => whnf) | (refine ret_up (up_frzK 0 2 [] rfl ?_ rfl ?_ rfl (up_here ?_)); (rw [hkl]; exact nr_atts l); (rw [hkl]; omega)) | (refine brd (fun h => ?_) (fun h => ?_) <;> conv => whnf) | (refine br (fun h => ?_) (fun h => ?_) <;> conv => whnf) | (refine ret_now hE ?_; conv => whnf) | (intro hlen; conv => whnf))
  · refine ⟨rfl, ?_⟩
    rw [hlen (by assumption)]
    simp [V.nl, nlL]
  · refine ⟨rfl, ?_⟩
    rw [hkl]
    simp [V.nl, nl_atts]
end Go.Proofs.Yteekfmflecgjmaa
