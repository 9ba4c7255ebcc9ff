/- Expressions as texts: expr.text and the document's exprText, walked. No conditions. -/
import Derived.Test.YteappcclfjafeaaExpr
import Derived.Test.YteappcclfjafeaaAwy
set_option linter.unusedSimpArgs false
set_option linter.unusedVariables false
set_option maxRecDepth 100000
namespace Go.Proofs.Yteappcclfjafeaa
open Go.RowKit

def signB (k : Int) : UInt8 := if k = 4 then 42 else if k = 5 then 43 else 63
def wrapB (x : Ex) (b : Int) : Bool := decide ((x.kind = 3 ∧ 0 < b) ∨ (x.kind = 2 ∧ 2 ≤ b))
mutual
def exT : Ex → List UInt8
  | .mk k t ps => if k = 1 then [UInt8.ofNat (97 + t.toNat)] else if k = 2 then Lib.join (exTL 1 ps) [] else if k = 3 then Lib.join (exTL 0 ps) [124] else (exTL 2 ps).headD [] ++ [signB k]
def exTL (b : Int) : List Ex → List (List UInt8)
  | [] => []
  | x :: xs => (if wrapB x b = true then 40 :: (exT x ++ [41]) else exT x) :: exTL b xs
end
def exW (b : Int) (x : Ex) : List UInt8 := if wrapB x b = true then 40 :: (exT x ++ [41]) else exT x
theorem exTL_map (b : Int) : ∀ ps, exTL b ps = ps.map (exW b)
  | [] => by simp [exTL]
  | x :: xs => by simp [exTL, exTL_map b xs, exW]
theorem exT_one (t : Int) (ps : List Ex) : exT (.mk 1 t ps) = [UInt8.ofNat (97 + t.toNat)] := by rw [exT, if_pos rfl]
theorem exT_seq (t : Int) (ps : List Ex) : exT (.mk 2 t ps) = Lib.join (ps.map (exW 1)) [] := by rw [exT, if_neg (by decide), if_pos rfl, exTL_map]
theorem exT_alt (t : Int) (ps : List Ex) : exT (.mk 3 t ps) = Lib.join (ps.map (exW 0)) [124] := by rw [exT, if_neg (by decide), if_neg (by decide), if_pos rfl, exTL_map]
theorem exT_sign {k : Int} (h : 4 ≤ k) (t : Int) (ps : List Ex) : exT (.mk k t ps) = (ps.map (exW 2)).headD [] ++ [signB k] := by rw [exT, if_neg (by omega), if_neg (by omega), if_neg (by omega), exTL_map]
/-! ### Joined -/
theorem join_nil (sep : List UInt8) : Lib.join [] sep = [] := rfl
theorem join_snoc (xs : List (List UInt8)) (y sep : List UInt8) : Lib.join (xs ++ [y]) sep = if xs = [] then y else Lib.join xs sep ++ sep ++ y := by
  unfold Lib.join
  induction xs with
  | nil => simp [List.intercalate]
  | cons x xs ih =>
    rw [if_neg (by simp)]
    cases xs with
    | nil => simp [List.intercalate]
    | cons x2 xs =>
      rw [if_neg (by simp)] at ih
      simp only [List.intercalate, List.cons_append, List.intersperse, List.flatten_cons, List.append_assoc] at ih ⊢
      rw [ih]
theorem join_len (xs : List (List UInt8)) (sep : List UInt8) : (Lib.join xs sep).length ≤ (xs.map fun x => x.length + sep.length).sum := by
  induction xs with
  | nil => simp [Lib.join, List.intercalate]
  | cons x xs ih =>
    cases xs with
    | nil => simp [Lib.join, List.intercalate]
    | cons x2 xs =>
      simp only [Lib.join, List.intercalate, List.intersperse, List.flatten_cons, List.length_append, List.map_cons, List.sum_cons] at ih ⊢
      omega
theorem sum_le {α : Type} (f g : α → Nat) : ∀ l : List α, (∀ x ∈ l, f x ≤ g x) → (l.map f).sum ≤ (l.map g).sum
  | [], _ => by simp
  | x :: l, h => by
    have := sum_le f g l (fun y hy => h y (by simp [hy]))
    have := h x (by simp)
    simp; omega
theorem sum_two {α : Type} (f : α → Nat) : ∀ l : List α, (l.map fun x => 2 * f x).sum = 2 * (l.map f).sum
  | [] => by simp
  | x :: l => by have := sum_two f l; simp; omega
theorem exW_len (b : Int) (x : Ex) : (exW b x).length ≤ (exT x).length + 2 := by
  unfold exW
  split
  · simp
  · omega
theorem exT_len : ∀ (N : Nat) (x : Ex), szE x ≤ N → (exT x).length + 3 ≤ 2 * szE x := by
  intro N
  induction N using Nat.strongRecOn with
  | _ N ih =>
    intro x hx
    cases x with
    | mk k t ps =>
      rw [szE_mk] at hx ⊢
      have hp : ∀ (b : Int), ∀ p ∈ ps, (exW b p).length + 1 ≤ 2 * szE p := fun b p hp => by
        have := szEL_mem hp
        have := ih (szE p) (by omega) p (Nat.le_refl _)
        have := exW_len b p
        omega
      have hj : ∀ (b : Int) (sep : List UInt8), sep.length ≤ 1 → (Lib.join (ps.map (exW b)) sep).length ≤ 2 * szEL ps := fun b sep hs => by
        have h1 := join_len (ps.map (exW b)) sep
        rw [List.map_map] at h1
        have h2 := sum_le ((fun x : List UInt8 => x.length + sep.length) ∘ exW b) (fun p => 2 * szE p) ps (fun p hp' => by have := hp b p hp'; simp only [Function.comp]; omega)
        rw [sum_two, ← szEL_sum] at h2
        omega
      rw [exT]
      simp only [exTL_map]
      split
      · simp; omega
      · split
        · have := hj 1 [] (by simp); omega
        · split
          · have := hj 0 [124] (by simp); omega
          · cases ps with
            | nil => simp; omega
            | cons p ps =>
              have := hp 2 p (by simp)
              have := szEL_mem (l := p :: ps) (x := p) (by simp)
              simp; omega
theorem exW_bd {b : Int} {x : Ex} : (exW b x).length + 1 ≤ 2 * szE x := by
  have := exT_len (szE x) x (Nat.le_refl _)
  have := exW_len b x
  omega
theorem join_bd (b : Int) (sep : List UInt8) (hs : sep.length ≤ 1) (ps : List Ex) : (Lib.join (ps.map (exW b)) sep).length ≤ 2 * szEL ps := by
  have h1 := join_len (ps.map (exW b)) sep
  rw [List.map_map] at h1
  have h2 := sum_le ((fun x : List UInt8 => x.length + sep.length) ∘ exW b) (fun p => 2 * szE p) ps (fun p hp' => by have := exW_bd (b := b) (x := p); simp only [Function.comp]; omega)
  rw [sum_two, ← szEL_sum] at h2
  omega
theorem szEL_take (l : List Ex) (k : Nat) : szEL (l.take k) ≤ szEL l := by
  rw [szEL_sum, szEL_sum]
  induction l generalizing k with
  | nil => simp
  | cons x l ih => cases k with
    | zero => simp
    | succ k => have := ih k; rw [List.take_succ_cons, List.map_cons, List.map_cons, List.sum_cons, List.sum_cons]; omega

/-! ### What is not refused -/
theorem ef_ok {k t : Int} {ps : List Ex} (h : exF (.mk k t ps) = 0) : (1 ≤ k ∧ k ≤ 6) ∧ formBad k t ps.length = false ∧ ¬ (t < 0 ∨ 8 ≤ t) ∧ exFL ps = 0 := by
  rw [exF] at h
  split at h
  · cases h
  · split at h
    · cases h
    · split at h
      · cases h
      · split at h
        · cases h
        · rename_i h1 h2 h3 h4
          exact ⟨by omega, by simpa using h2, h4, h⟩
theorem efl_mem : ∀ {ps : List Ex}, exFL ps = 0 → ∀ p ∈ ps, exF p = 0
  | x :: xs, h, p, hp => by
    rw [exFL] at h
    split at h
    · contradiction
    · rename_i hx
      rcases List.mem_cons.1 hp with rfl | hp
      · omega
      · exact efl_mem h p hp
def strs (l : List (List UInt8)) : List V := l.map V.str
theorem strs_len (l : List (List UInt8)) : (strs l).length = l.length := by simp [strs]
theorem strs_nr (l : List (List UInt8)) : nrL (strs l) := by
  unfold strs
  rw [nrL_mem]
  intro x hx
  obtain ⟨q, _, rfl⟩ := List.mem_map.1 hx
  trivial
theorem strs_kill (id : Nat) (l : List (List UInt8)) : killL id (strs l) = strs l := kill_nrL id (strs_nr l)
theorem strs_app (a b : List (List UInt8)) : strs (a ++ b) = strs a ++ strs b := by simp [strs]
/-- The parts' bound. -/
def bdOf (k : Int) : Int := if k = 3 then 0 else if k ≤ 2 then 1 else 2
set_option maxHeartbeats 16000000 in
theorem expr_text : ∀ (N : Nat) (k t : Int) (ps : List Ex), szEL ps ≤ N → N ≤ 1048576 → exF (.mk k t ps) = 0 → Fn1 Try.prog 45 [.agg [.int .i64 k, .int .i64 t, .lst (ps.map exA)]] (fun r => r = .str (exT (.mk k t ps))) := by
  intro N
  induction N using Nat.strongRecOn with
  | _ N ih =>
    intro k t ps hps hN hok
    obtain ⟨hk, hf, ht, hfl⟩ := ef_ok hok
    have hlm : (ps.map exA).length = ps.length := by simp
    have hll := szEL_len ps
    refine fn1E (T := Try.tt) Try.func45 rfl tt_all follows_all ?_ ?_ fun C hC hE => ?_
    · kernel_rfl
    · exact Nat.le_of_ble_eq_true (by kernel_rfl)
    conv => whnf
    repeat' (first | (refine brd_t (by first | assumption | omega) ?_; conv => whnf) | (refine brd_f (by first | assumption | omega) ?_; conv => whnf) | (refine ask (by first | assumption | omega) ?_; conv => whnf) | (refine fit64 (by omega) ?_; conv => whnf) | (refine fit (by simp only [kmin, kmax]; omega) ?_; conv => whnf) | (refine br_t (by assumption) ?_; conv => whnf) | (refine br_f (by assumption) ?_; conv => whnf) | (refine get_of (by assumption) ?_; conv => whnf) | (refine get_map (by assumption) ?_; conv => whnf) | (refine draw_lex hE ?_ ?_; decide +kernel; conv => whnf) | (refine draw_any hE [⟨0, [(0, none), (1, none), (2, none), (3, none), (4, none), (5, none), (6, none), (7, none), (8, none)], none, [], [[]]⟩] ?_ ?_; decide +kernel; conv => whnf) | (refine brd (fun h => ?_) (fun h => ?_) <;> conv => whnf) | (refine br (fun h => ?_) (fun h => ?_) <;> conv => whnf) | (refine ret_now hE ?_; conv => whnf) | (intro hlen; conv => whnf) | (refine seg_here ?_; conv => whnf) | (refine both ?_ ?_ <;> conv => whnf))
    refine loopE (fun j : Nat => ⟨72, [(1, .ptr 0 0 0), (3, .sl 1 0 ((ps.take j).map (exW (bdOf k))).length), (9, .lst (ps.map exA)), (10, .int .i64 (ps.map exA).length), (11, .int .i64 j)], [some (.row 3 [.agg [.int .i64 k, .int .i64 t, .lst (ps.map exA)]]), some (.row 1 (strs ((ps.take j).map (exW (bdOf k)))))]⟩)
      (fun j => j ≤ ps.length) (fun j => ps.length - j) 0 hE ?_ ?_ (Nat.zero_le _) ?_
    · kernel_rfl
    · exact up_own 3 1 rfl rfl (at_keep [1, 3, 9, 10, 11] rfl)
    intro j hj
    by_cases hlt : j < ps.length
    · obtain ⟨a, u, qs, hx, hx'⟩ := ex_at hlt
      have hmem := List.mem_of_getElem? hx
      have hp2 := szEL_mem hmem
      have hbd := exT_len _ (.mk a u qs) (Nat.le_refl _)
      rw [szE_mk] at hp2 hbd
      have ih' := ih (szEL qs) (by omega) a u qs (Nat.le_refl _) (by omega) (efl_mem hfl _ hmem)
      have hjl : ((ps.take j).map (exW (bdOf k))).length = j := by simp; omega
      have hWp : ((a = 3 ∧ k ≠ 3) ∨ (a = 2 ∧ 4 ≤ k)) → exW (bdOf k) (.mk a u qs) = 40 :: (exT (.mk a u qs) ++ [41]) := fun h => by
        unfold exW
        rw [if_pos]
        unfold wrapB bdOf
        refine decide_eq_true ?_
        simp only [Ex.kind]
        (repeat' split) <;> omega
      have hWn : ¬ ((a = 3 ∧ k ≠ 3) ∨ (a = 2 ∧ 4 ≤ k)) → exW (bdOf k) (.mk a u qs) = exT (.mk a u qs) := fun h => by
        unfold exW
        rw [if_neg]
        unfold wrapB bdOf
        rw [decide_eq_true_eq]
        simp only [Ex.kind]
        (repeat' split) <;> omega
      have hnext : (ps.take (j + 1)).map (exW (bdOf k)) = (ps.take j).map (exW (bdOf k)) ++ [exW (bdOf k) (.mk a u qs)] := by
        rw [List.take_add_one, hx, List.map_append]; rfl
      generalize hL : (ps.take j).map (exW (bdOf k)) = L at hjl hnext ⊢
      have hsl := strs_len L
      have hpush : ∀ (s : List UInt8) (x y z : Nat), killL x (killL y (killL z (List.take L.length (List.drop 0 (strs L)) ++ List.take 1 (List.drop 0 [V.str s])))) = strs (L ++ [s]) := fun s x y z => by
        rw [List.drop_zero, List.take_of_length_le (by omega), show strs L ++ List.take 1 (List.drop 0 [V.str s]) = strs (L ++ [s]) by rw [strs_app]; rfl, strs_kill, strs_kill, strs_kill]
      conv => whnf
      repeat' (first | (refine brd_t (by first | assumption | omega) ?_; conv => whnf) | (refine brd_f (by first | assumption | omega) ?_; conv => whnf) | (refine ask (by first | assumption | omega) ?_; conv => whnf) | (refine fit64 (by omega) ?_; conv => whnf) | (refine fit (by simp only [kmin, kmax]; omega) ?_; conv => whnf) | (refine br_t (by assumption) ?_; conv => whnf) | (refine br_f (by assumption) ?_; conv => whnf) | (refine get_of (by assumption) ?_; conv => whnf) | (refine get_map (by assumption) ?_; conv => whnf) | (refine call_eq (ih') hC hasBody_45 ?_ ?_ ?_; kernel_rfl; kernel_rfl; conv => whnf) | (refine callq_eq (ih') hC hasBody_45 ?_ ?_ ?_; kernel_rfl; kernel_rfl; conv => whnf) | (refine ask (Nat.le_refl 1) ?_; conv => whnf) | (refine ask ⟨?_, ?_, ?_⟩ ?_; omega; (show _ + 1 ≤ 9223372036854775807; omega); (show (_ + 1) * 16 ≤ 140737488355328; omega); conv => whnf) | (refine ask (by simp; omega) ?_; conv => whnf) | (refine draw_lex hE ?_ ?_; decide +kernel; conv => whnf) | (refine draw_any hE [⟨0, [(0, none), (1, none), (2, none), (3, none), (4, none), (5, none), (6, none), (7, none), (8, none)], none, [], [[]]⟩] ?_ ?_; decide +kernel; conv => whnf) | (refine brd (fun h => ?_) (fun h => ?_) <;> conv => whnf) | (refine br (fun h => ?_) (fun h => ?_) <;> conv => whnf) | (refine ret_now hE ?_; conv => whnf) | (intro hlen; conv => whnf) | (refine seg_here ?_; conv => whnf) | (refine both ?_ ?_ <;> conv => whnf))
      all_goals refine next_drop [1, 3, 9, 10, 11] [2, 3] (j + 1) (show j + 1 ≤ ps.length by omega) (show ps.length - (j + 1) < ps.length - j by omega) ?_
      all_goals conv => whnf
      all_goals rw [hpush, hnext]
      all_goals first
        | (rw [hWn (by omega), List.length_append]; rfl)
        | (rw [hWp (by omega), List.length_append]; rfl)
    · have hjn : j = ps.length := by omega
      subst hjn
      rw [List.take_length]
      generalize hL : ps.map (exW (bdOf k)) = L
      have hLl : L.length = ps.length := by rw [← hL]; simp
      have hsl := strs_len L
      have hfz : ∀ n, n = L.length → ∀ s : List UInt8, frzL 1 (strs L) [.sl 1 0 n, .str s] = [.lst (L.map V.str), .str s] := fun n hn s => by
        subst hn
        rw [frzL_cons, frz_sl, if_pos rfl, if_pos (by omega), List.drop_zero, List.take_of_length_le (by omega), frzL_cons, frz_str, frzL_nil]
        rfl
      have hjb : ∀ sep : List UInt8, sep.length ≤ 1 → (Lib.join L sep).length ≤ 2 * szEL ps := fun sep hs => by rw [← hL]; exact join_bd _ sep hs ps
      have hform : ∀ h : formBad k t ps.length = true, False := fun h => by rw [hf] at h; cases h
      have hform : ¬ (k = 1 ∧ 0 < ps.length) ∧ ¬ (k ≠ 1 ∧ t ≠ 0) ∧ ¬ (4 ≤ k ∧ ps.length ≠ 1) := by
        unfold formBad at hf
        simp only [Bool.or_eq_false_iff, decide_eq_false_iff_not] at hf
        omega
      rcases (by omega : k = 1 ∨ k = 2 ∨ k = 3 ∨ (k = 4 ∨ k = 5 ∨ k = 6)) with rfl | rfl | rfl | hk4
      · rcases (by omega : t = 0 ∨ t = 1 ∨ t = 2 ∨ t = 3 ∨ t = 4 ∨ t = 5 ∨ t = 6 ∨ t = 7) with rfl | rfl | rfl | rfl | rfl | rfl | rfl | rfl
        all_goals
          conv => whnf
          repeat' (first | (refine brd_t (by first | assumption | omega) ?_; conv => whnf) | (refine brd_f (by first | assumption | omega) ?_; conv => whnf) | (refine ask (by first | assumption | omega) ?_; conv => whnf) | (refine fit64 (by omega) ?_; conv => whnf) | (refine fit (by simp only [kmin, kmax]; omega) ?_; conv => whnf) | (refine br_t (by assumption) ?_; conv => whnf) | (refine br_f (by assumption) ?_; conv => whnf) | (refine get_of (by assumption) ?_; conv => whnf) | (refine get_map (by assumption) ?_; conv => whnf) | (refine ask (by decide) ?_; conv => whnf) | (refine draw_lex hE ?_ ?_; decide +kernel; conv => whnf) | (refine draw_any hE [⟨0, [(0, none), (1, none), (2, none), (3, none), (4, none), (5, none), (6, none), (7, none), (8, none)], none, [], [[]]⟩] ?_ ?_; decide +kernel; conv => whnf) | (refine brd (fun h => ?_) (fun h => ?_) <;> conv => whnf) | (refine br (fun h => ?_) (fun h => ?_) <;> conv => whnf) | (refine ret_now hE ?_; conv => whnf) | (intro hlen; conv => whnf) | (refine seg_here ?_; conv => whnf) | (refine both ?_ ?_ <;> conv => whnf))
          exact ⟨rfl, by rw [exT_one]; rfl⟩
      · have hjs := join_strs L [] (by omega) (by have := hjb [] (by simp); omega)
        conv => whnf
        repeat' (first | (refine brd_t (by first | assumption | omega) ?_; conv => whnf) | (refine brd_f (by first | assumption | omega) ?_; conv => whnf) | (refine ask (by first | assumption | omega) ?_; conv => whnf) | (refine fit64 (by omega) ?_; conv => whnf) | (refine fit (by simp only [kmin, kmax]; omega) ?_; conv => whnf) | (refine br_t (by assumption) ?_; conv => whnf) | (refine br_f (by assumption) ?_; conv => whnf) | (refine get_of (by assumption) ?_; conv => whnf) | (refine get_map (by assumption) ?_; conv => whnf) | (refine call_lend 1 hjs hC hasBody_61 rfl (strs_nr _) rfl (hfz _ rfl _) rfl rfl ?_; conv => whnf) | (refine draw_lex hE ?_ ?_; decide +kernel; conv => whnf) | (refine draw_any hE [⟨0, [(0, none), (1, none), (2, none), (3, none), (4, none), (5, none), (6, none), (7, none), (8, none)], none, [], [[]]⟩] ?_ ?_; decide +kernel; conv => whnf) | (refine brd (fun h => ?_) (fun h => ?_) <;> conv => whnf) | (refine br (fun h => ?_) (fun h => ?_) <;> conv => whnf) | (refine ret_now hE ?_; conv => whnf) | (intro hlen; conv => whnf) | (refine seg_here ?_; conv => whnf) | (refine both ?_ ?_ <;> conv => whnf))
        exact ⟨rfl, by rw [exT_seq, ← hL]; rfl⟩
      · have hjs := join_strs L [124] (by omega) (by have := hjb [124] (by simp); omega)
        conv => whnf
        repeat' (first | (refine brd_t (by first | assumption | omega) ?_; conv => whnf) | (refine brd_f (by first | assumption | omega) ?_; conv => whnf) | (refine ask (by first | assumption | omega) ?_; conv => whnf) | (refine fit64 (by omega) ?_; conv => whnf) | (refine fit (by simp only [kmin, kmax]; omega) ?_; conv => whnf) | (refine br_t (by assumption) ?_; conv => whnf) | (refine br_f (by assumption) ?_; conv => whnf) | (refine get_of (by assumption) ?_; conv => whnf) | (refine get_map (by assumption) ?_; conv => whnf) | (refine call_lend 1 hjs hC hasBody_61 rfl (strs_nr _) rfl (hfz _ rfl _) rfl rfl ?_; conv => whnf) | (refine draw_lex hE ?_ ?_; decide +kernel; conv => whnf) | (refine draw_any hE [⟨0, [(0, none), (1, none), (2, none), (3, none), (4, none), (5, none), (6, none), (7, none), (8, none)], none, [], [[]]⟩] ?_ ?_; decide +kernel; conv => whnf) | (refine brd (fun h => ?_) (fun h => ?_) <;> conv => whnf) | (refine br (fun h => ?_) (fun h => ?_) <;> conv => whnf) | (refine ret_now hE ?_; conv => whnf) | (intro hlen; conv => whnf) | (refine seg_here ?_; conv => whnf) | (refine both ?_ ?_ <;> conv => whnf))
        exact ⟨rfl, by rw [exT_alt, ← hL]; rfl⟩
      · obtain ⟨p, rfl⟩ : ∃ p, ps = [p] := by
          match ps, (show ps.length = 1 by omega) with
          | [p], _ => exact ⟨p, rfl⟩
        have hb2 : bdOf k = 2 := by unfold bdOf; rw [if_neg (by omega), if_neg (by omega)]
        rw [hb2] at hL
        simp only [List.map_cons, List.map_nil] at hL
        subst hL
        have hwb := exW_bd (b := 2) (x := p)
        have hsz : szE p ≤ szEL [p] := szEL_mem (by simp)
        rcases hk4 with rfl | rfl | rfl
        all_goals
          conv => whnf
          repeat' (first | (refine brd_t (by first | assumption | omega) ?_; conv => whnf) | (refine brd_f (by first | assumption | omega) ?_; conv => whnf) | (refine ask (by first | assumption | omega) ?_; conv => whnf) | (refine fit64 (by omega) ?_; conv => whnf) | (refine fit (by simp only [kmin, kmax]; omega) ?_; conv => whnf) | (refine br_t (by assumption) ?_; conv => whnf) | (refine br_f (by assumption) ?_; conv => whnf) | (refine get_of (by assumption) ?_; conv => whnf) | (refine get_map (by assumption) ?_; conv => whnf) | (refine ask (by decide) ?_; conv => whnf) | (refine ask (by simp; omega) ?_; conv => whnf) | (refine draw_lex hE ?_ ?_; decide +kernel; conv => whnf) | (refine draw_any hE [⟨0, [(0, none), (1, none), (2, none), (3, none), (4, none), (5, none), (6, none), (7, none), (8, none)], none, [], [[]]⟩] ?_ ?_; decide +kernel; conv => whnf) | (refine brd (fun h => ?_) (fun h => ?_) <;> conv => whnf) | (refine br (fun h => ?_) (fun h => ?_) <;> conv => whnf) | (refine ret_now hE ?_; conv => whnf) | (intro hlen; conv => whnf) | (refine seg_here ?_; conv => whnf) | (refine both ?_ ?_ <;> conv => whnf))
          exact ⟨rfl, by rw [exT_sign (by decide)]; rfl⟩

/-! ### The document's text -/
theorem exW_one (b t : Int) (ps : List Ex) : exW b (.mk 1 t ps) = [UInt8.ofNat (97 + t.toNat)] := by
  unfold exW
  rw [if_neg (by unfold wrapB; rw [decide_eq_true_eq]; simp only [Ex.kind]; omega), exT_one]
theorem exW_in {b k t : Int} {ps : List Ex} (h : (k = 3 ∧ 0 < b) ∨ (k = 2 ∧ 2 ≤ b)) : exW b (.mk k t ps) = 40 :: (exT (.mk k t ps) ++ [41]) := by
  unfold exW
  rw [if_pos (by unfold wrapB; exact decide_eq_true h)]
theorem exW_out {b k t : Int} {ps : List Ex} (h : ¬ ((k = 3 ∧ 0 < b) ∨ (k = 2 ∧ 2 ≤ b))) : exW b (.mk k t ps) = exT (.mk k t ps) := by
  unfold exW
  rw [if_neg (by unfold wrapB; rw [decide_eq_true_eq]; exact h)]
theorem join_next {l : List Ex} {j : Nat} {x : Ex} (hx : l[j]? = some x) (b : Int) (sep : List UInt8) : Lib.join ((l.take (j + 1)).map (exW b)) sep = if j = 0 then exW b x else Lib.join ((l.take j).map (exW b)) sep ++ sep ++ exW b x := by
  have hlt := (List.getElem?_eq_some_iff.1 hx).1
  rw [List.take_add_one, hx, List.map_append]
  show Lib.join ((l.take j).map (exW b) ++ [exW b x]) sep = _
  rw [join_snoc]
  by_cases h : j = 0
  · subst h; simp
  · rw [if_neg h, if_neg]
    intro e
    have := congrArg List.length e
    simp only [List.length_map, List.length_take, List.length_nil] at this
    omega
set_option maxHeartbeats 16000000 in
theorem doc_text : ∀ (N : Nat) (k t : Int) (ps : List Ex) (b : Int), 0 ≤ b → szEL ps ≤ N → N ≤ 1048576 → exF (.mk k t ps) = 0 → Fn1 Try.prog 49 [.agg [.int .i64 k, .int .i64 t, .lst (ps.map exA)], .int .i64 b] (fun r => r = .str (exW b (.mk k t ps))) := by
  intro N
  induction N using Nat.strongRecOn with
  | _ N ih =>
    intro k t ps b hb0 hps hN hok
    obtain ⟨hk, hf, ht, hfl⟩ := ef_ok hok
    have hlm : (ps.map exA).length = ps.length := by simp
    have hll := szEL_len ps
    have hform : ¬ (k = 1 ∧ 0 < ps.length) ∧ ¬ (k ≠ 1 ∧ t ≠ 0) ∧ ¬ (4 ≤ k ∧ ps.length ≠ 1) := by
      unfold formBad at hf
      simp only [Bool.or_eq_false_iff, decide_eq_false_iff_not] at hf
      omega
    rcases (by omega : k = 1 ∨ k = 2 ∨ k = 3 ∨ (k = 4 ∨ k = 5 ∨ k = 6)) with rfl | rfl | rfl | hk4
    · rcases (by omega : t = 0 ∨ t = 1 ∨ t = 2 ∨ t = 3 ∨ t = 4 ∨ t = 5 ∨ t = 6 ∨ t = 7) with rfl | rfl | rfl | rfl | rfl | rfl | rfl | rfl
      all_goals
        refine fn1E (T := Try.tt) Try.func49 rfl tt_all follows_all ?_ ?_ fun C hC hE => ?_
        · kernel_rfl
        · exact Nat.le_of_ble_eq_true (by kernel_rfl)
        conv => whnf
        repeat' (first | (refine brd_t (by first | assumption | omega) ?_; conv => whnf) | (refine brd_f (by first | assumption | omega) ?_; conv => whnf) | (refine ask (by first | assumption | omega) ?_; conv => whnf) | (refine fit64 (by omega) ?_; conv => whnf) | (refine fit (by simp only [kmin, kmax]; omega) ?_; conv => whnf) | (refine br_t (by assumption) ?_; conv => whnf) | (refine br_f (by assumption) ?_; conv => whnf) | (refine get_of (by assumption) ?_; conv => whnf) | (refine get_map (by assumption) ?_; conv => whnf) | (refine ask (by decide) ?_; first | refine ⟨[97], rfl, by decide, ?_⟩ | refine ⟨[98], rfl, by decide, ?_⟩ | refine ⟨[99], rfl, by decide, ?_⟩ | refine ⟨[100], rfl, by decide, ?_⟩ | refine ⟨[101], rfl, by decide, ?_⟩ | refine ⟨[102], rfl, by decide, ?_⟩ | refine ⟨[103], rfl, by decide, ?_⟩ | refine ⟨[104], rfl, by decide, ?_⟩; conv => whnf) | (refine draw_lex hE ?_ ?_; decide +kernel; conv => whnf) | (refine draw_any hE [⟨1, [(0, none), (1, none), (2, none), (3, none), (4, none), (6, none), (7, none), (8, none), (5, some 0), (9, none), (10, none), (11, none), (12, none)], none, [], [[]]⟩] ?_ ?_; decide +kernel; conv => whnf) | (refine brd (fun h => ?_) (fun h => ?_) <;> conv => whnf) | (refine br (fun h => ?_) (fun h => ?_) <;> conv => whnf) | (refine ret_now hE ?_; conv => whnf) | (intro hlen; conv => whnf) | (refine seg_here ?_; conv => whnf) | (refine both ?_ ?_ <;> conv => whnf))
        exact ⟨rfl, by rw [exW_one]; rfl⟩
    · refine fn1E (T := Try.tt) Try.func49 rfl tt_all follows_all ?_ ?_ fun C hC hE => ?_
      · kernel_rfl
      · exact Nat.le_of_ble_eq_true (by kernel_rfl)
      conv => whnf
      repeat' (first | (refine brd_t (by first | assumption | omega) ?_; conv => whnf) | (refine brd_f (by first | assumption | omega) ?_; conv => whnf) | (refine ask (by first | assumption | omega) ?_; conv => whnf) | (refine fit64 (by omega) ?_; conv => whnf) | (refine fit (by simp only [kmin, kmax]; omega) ?_; conv => whnf) | (refine br_t (by assumption) ?_; conv => whnf) | (refine br_f (by assumption) ?_; conv => whnf) | (refine get_of (by assumption) ?_; conv => whnf) | (refine get_map (by assumption) ?_; conv => whnf) | (refine draw_lex hE ?_ ?_; decide +kernel; conv => whnf) | (refine draw_any hE [⟨1, [(0, none), (1, none), (2, none), (3, none), (4, none), (6, none), (7, none), (8, none), (5, some 0), (9, none), (10, none), (11, none), (12, none)], none, [], [[]]⟩] ?_ ?_; decide +kernel; conv => whnf) | (refine brd (fun h => ?_) (fun h => ?_) <;> conv => whnf) | (refine br (fun h => ?_) (fun h => ?_) <;> conv => whnf) | (refine ret_now hE ?_; conv => whnf) | (intro hlen; conv => whnf) | (refine seg_here ?_; conv => whnf) | (refine both ?_ ?_ <;> conv => whnf))
      refine loopE (fun j : Nat => ⟨74, [(1, .int .i64 b), (2, .ptr 0 0 0), (5, .str (Lib.join ((ps.take j).map (exW 1)) [])), (35, .lst (ps.map exA)), (36, .int .i64 (ps.map exA).length), (37, .int .i64 j)], [some (.row 3 [.agg [.int .i64 2, .int .i64 t, .lst (ps.map exA)]])]⟩)
        (fun j => j ≤ ps.length) (fun j => ps.length - j) 0 hE ?_ ?_ (Nat.zero_le _) ?_
      · kernel_rfl
      · exact at_keep [1, 2, 5, 35, 36, 37] rfl
      intro j hj
      by_cases hlt : j < ps.length
      · obtain ⟨a, u, qs, hx, hx'⟩ := ex_at hlt
        have hmem := List.mem_of_getElem? hx
        have hp2 := szEL_mem hmem
        have hbd := exW_bd (b := 1) (x := .mk a u qs)
        rw [szE_mk] at hp2 hbd
        have ih' := ih (szEL qs) (by omega) a u qs 1 (by decide) (Nat.le_refl _) (by omega) (efl_mem hfl _ hmem)
        have hjb := join_bd 1 [] (by simp) (ps.take j)
        have htk := szEL_take ps j
        have hnx := join_next hx 1 []
        conv => whnf
        repeat' (first | (refine brd_t (by first | assumption | omega) ?_; conv => whnf) | (refine brd_f (by first | assumption | omega) ?_; conv => whnf) | (refine ask (by first | assumption | omega) ?_; conv => whnf) | (refine fit64 (by omega) ?_; conv => whnf) | (refine fit (by simp only [kmin, kmax]; omega) ?_; conv => whnf) | (refine br_t (by assumption) ?_; conv => whnf) | (refine br_f (by assumption) ?_; conv => whnf) | (refine get_of (by assumption) ?_; conv => whnf) | (refine get_map (by assumption) ?_; conv => whnf) | (refine call_eq (ih') hC hasBody_49 ?_ ?_ ?_; kernel_rfl; kernel_rfl; conv => whnf) | (refine callq_eq (ih') hC hasBody_49 ?_ ?_ ?_; kernel_rfl; kernel_rfl; conv => whnf) | (refine draw_lex hE ?_ ?_; decide +kernel; conv => whnf) | (refine draw_any hE [⟨1, [(0, none), (1, none), (2, none), (3, none), (4, none), (6, none), (7, none), (8, none), (5, some 0), (9, none), (10, none), (11, none), (12, none)], none, [], [[]]⟩] ?_ ?_; decide +kernel; conv => whnf) | (refine brd (fun h => ?_) (fun h => ?_) <;> conv => whnf) | (refine br (fun h => ?_) (fun h => ?_) <;> conv => whnf) | (refine ret_now hE ?_; conv => whnf) | (intro hlen; conv => whnf) | (refine seg_here ?_; conv => whnf) | (refine both ?_ ?_ <;> conv => whnf))
        refine next_drop [1, 2, 5, 35, 36, 37] [1] (j + 1) (show j + 1 ≤ ps.length by omega) (show ps.length - (j + 1) < ps.length - j by omega) ?_
        conv => whnf
        rw [hnx]
        split
        · rename_i h0; subst h0; rfl
        · rw [List.append_nil]; rfl
      · have hjn : j = ps.length := by omega
        subst hjn
        have hjb := join_bd 1 [] (by simp) ps
        rw [List.take_length]
        conv => whnf
        repeat' (first | (refine brd_t (by first | assumption | omega) ?_; conv => whnf) | (refine brd_f (by first | assumption | omega) ?_; conv => whnf) | (refine ask (by first | assumption | omega) ?_; conv => whnf) | (refine fit64 (by omega) ?_; conv => whnf) | (refine fit (by simp only [kmin, kmax]; omega) ?_; conv => whnf) | (refine br_t (by assumption) ?_; conv => whnf) | (refine br_f (by assumption) ?_; conv => whnf) | (refine get_of (by assumption) ?_; conv => whnf) | (refine get_map (by assumption) ?_; conv => whnf) | (refine ask (by simp; omega) ?_; conv => whnf) | (refine draw_lex hE ?_ ?_; decide +kernel; conv => whnf) | (refine draw_any hE [⟨1, [(0, none), (1, none), (2, none), (3, none), (4, none), (6, none), (7, none), (8, none), (5, some 0), (9, none), (10, none), (11, none), (12, none)], none, [], [[]]⟩] ?_ ?_; decide +kernel; conv => whnf) | (refine brd (fun h => ?_) (fun h => ?_) <;> conv => whnf) | (refine br (fun h => ?_) (fun h => ?_) <;> conv => whnf) | (refine ret_now hE ?_; conv => whnf) | (intro hlen; conv => whnf) | (refine seg_here ?_; conv => whnf) | (refine both ?_ ?_ <;> conv => whnf))
        · exact ⟨rfl, by rw [exW_out (by omega), exT_seq]⟩
        · exact ⟨rfl, by rw [exW_in (by omega), exT_seq]; rfl⟩
    · refine fn1E (T := Try.tt) Try.func49 rfl tt_all follows_all ?_ ?_ fun C hC hE => ?_
      · kernel_rfl
      · exact Nat.le_of_ble_eq_true (by kernel_rfl)
      conv => whnf
      repeat' (first | (refine brd_t (by first | assumption | omega) ?_; conv => whnf) | (refine brd_f (by first | assumption | omega) ?_; conv => whnf) | (refine ask (by first | assumption | omega) ?_; conv => whnf) | (refine fit64 (by omega) ?_; conv => whnf) | (refine fit (by simp only [kmin, kmax]; omega) ?_; conv => whnf) | (refine br_t (by assumption) ?_; conv => whnf) | (refine br_f (by assumption) ?_; conv => whnf) | (refine get_of (by assumption) ?_; conv => whnf) | (refine get_map (by assumption) ?_; conv => whnf) | (refine draw_lex hE ?_ ?_; decide +kernel; conv => whnf) | (refine draw_any hE [⟨1, [(0, none), (1, none), (2, none), (3, none), (4, none), (6, none), (7, none), (8, none), (5, some 0), (9, none), (10, none), (11, none), (12, none)], none, [], [[]]⟩] ?_ ?_; decide +kernel; conv => whnf) | (refine brd (fun h => ?_) (fun h => ?_) <;> conv => whnf) | (refine br (fun h => ?_) (fun h => ?_) <;> conv => whnf) | (refine ret_now hE ?_; conv => whnf) | (intro hlen; conv => whnf) | (refine seg_here ?_; conv => whnf) | (refine both ?_ ?_ <;> conv => whnf))
      refine loopE (fun j : Nat => ⟨74, [(1, .int .i64 b), (2, .ptr 0 0 0), (5, .str (Lib.join ((ps.take j).map (exW 0)) [124])), (52, .lst (ps.map exA)), (53, .int .i64 (ps.map exA).length), (54, .int .i64 j)], [some (.row 3 [.agg [.int .i64 3, .int .i64 t, .lst (ps.map exA)]])]⟩)
        (fun j => j ≤ ps.length) (fun j => ps.length - j) 0 hE ?_ ?_ (Nat.zero_le _) ?_
      · kernel_rfl
      · exact at_keep [1, 2, 5, 52, 53, 54] rfl
      intro j hj
      by_cases hlt : j < ps.length
      · obtain ⟨a, u, qs, hx, hx'⟩ := ex_at hlt
        have hmem := List.mem_of_getElem? hx
        have hp2 := szEL_mem hmem
        have hbd := exW_bd (b := 0) (x := .mk a u qs)
        rw [szE_mk] at hp2 hbd
        have ih' := ih (szEL qs) (by omega) a u qs 0 (by decide) (Nat.le_refl _) (by omega) (efl_mem hfl _ hmem)
        have hjb := join_bd 0 [124] (by simp) (ps.take j)
        have htk := szEL_take ps j
        have hnx := join_next hx 0 [124]
        conv => whnf
        repeat' (first | (refine brd_t (by first | assumption | omega) ?_; conv => whnf) | (refine brd_f (by first | assumption | omega) ?_; conv => whnf) | (refine ask (by first | assumption | omega) ?_; conv => whnf) | (refine fit64 (by omega) ?_; conv => whnf) | (refine fit (by simp only [kmin, kmax]; omega) ?_; conv => whnf) | (refine br_t (by assumption) ?_; conv => whnf) | (refine br_f (by assumption) ?_; conv => whnf) | (refine get_of (by assumption) ?_; conv => whnf) | (refine get_map (by assumption) ?_; conv => whnf) | (refine call_eq (ih') hC hasBody_49 ?_ ?_ ?_; kernel_rfl; kernel_rfl; conv => whnf) | (refine callq_eq (ih') hC hasBody_49 ?_ ?_ ?_; kernel_rfl; kernel_rfl; conv => whnf) | (refine ask ?_ ?_; (show _ + 1 ≤ 9223372036854775807; omega); conv => whnf) | (refine ask ?_ ?_; (show (_ ++ [124]).length + _ ≤ 9223372036854775807; rw [List.length_append, List.length_singleton]; omega); conv => whnf) | (refine draw_lex hE ?_ ?_; decide +kernel; conv => whnf) | (refine draw_any hE [⟨1, [(0, none), (1, none), (2, none), (3, none), (4, none), (6, none), (7, none), (8, none), (5, some 0), (9, none), (10, none), (11, none), (12, none)], none, [], [[]]⟩] ?_ ?_; decide +kernel; conv => whnf) | (refine brd (fun h => ?_) (fun h => ?_) <;> conv => whnf) | (refine br (fun h => ?_) (fun h => ?_) <;> conv => whnf) | (refine ret_now hE ?_; conv => whnf) | (intro hlen; conv => whnf) | (refine seg_here ?_; conv => whnf) | (refine both ?_ ?_ <;> conv => whnf))
        all_goals refine next_drop [1, 2, 5, 52, 53, 54] [1] (j + 1) (show j + 1 ≤ ps.length by omega) (show ps.length - (j + 1) < ps.length - j by omega) ?_
        all_goals conv => whnf
        all_goals rw [hnx]
        · rw [if_neg (by omega)]; rfl
        · have h0 : j = 0 := by omega
          subst h0; rfl
      · have hjn : j = ps.length := by omega
        subst hjn
        have hjb := join_bd 0 [124] (by simp) ps
        rw [List.take_length]
        conv => whnf
        repeat' (first | (refine brd_t (by first | assumption | omega) ?_; conv => whnf) | (refine brd_f (by first | assumption | omega) ?_; conv => whnf) | (refine ask (by first | assumption | omega) ?_; conv => whnf) | (refine fit64 (by omega) ?_; conv => whnf) | (refine fit (by simp only [kmin, kmax]; omega) ?_; conv => whnf) | (refine br_t (by assumption) ?_; conv => whnf) | (refine br_f (by assumption) ?_; conv => whnf) | (refine get_of (by assumption) ?_; conv => whnf) | (refine get_map (by assumption) ?_; conv => whnf) | (refine ask (by simp; omega) ?_; conv => whnf) | (refine draw_lex hE ?_ ?_; decide +kernel; conv => whnf) | (refine draw_any hE [⟨1, [(0, none), (1, none), (2, none), (3, none), (4, none), (6, none), (7, none), (8, none), (5, some 0), (9, none), (10, none), (11, none), (12, none)], none, [], [[]]⟩] ?_ ?_; decide +kernel; conv => whnf) | (refine brd (fun h => ?_) (fun h => ?_) <;> conv => whnf) | (refine br (fun h => ?_) (fun h => ?_) <;> conv => whnf) | (refine ret_now hE ?_; conv => whnf) | (intro hlen; conv => whnf) | (refine seg_here ?_; conv => whnf) | (refine both ?_ ?_ <;> conv => whnf))
        · exact ⟨rfl, by rw [exW_out (by omega), exT_alt]⟩
        · exact ⟨rfl, by rw [exW_in (by omega), exT_alt]; rfl⟩
    · obtain ⟨p, rfl⟩ : ∃ p, ps = [p] := by
        match ps, (show ps.length = 1 by omega) with
        | [p], _ => exact ⟨p, rfl⟩
      have hwb := exW_bd (b := 2) (x := p)
      have hsz : szE p ≤ szEL [p] := szEL_mem (by simp)
      cases p with
      | mk a u qs =>
        rw [szE_mk] at hsz hwb
        have ih' := ih (szEL qs) (by omega) a u qs 2 (by decide) (Nat.le_refl _) (by omega) (efl_mem hfl _ (by simp))
        rw [← exRL_map] at ih'
        rcases hk4 with rfl | rfl | rfl
        all_goals
          refine fn1E (T := Try.tt) Try.func49 rfl tt_all follows_all ?_ ?_ fun C hC hE => ?_
          · kernel_rfl
          · exact Nat.le_of_ble_eq_true (by kernel_rfl)
          conv => whnf
          repeat' (first | (refine brd_t (by first | assumption | omega) ?_; conv => whnf) | (refine brd_f (by first | assumption | omega) ?_; conv => whnf) | (refine ask (by first | assumption | omega) ?_; conv => whnf) | (refine fit64 (by omega) ?_; conv => whnf) | (refine fit (by simp only [kmin, kmax]; omega) ?_; conv => whnf) | (refine br_t (by assumption) ?_; conv => whnf) | (refine br_f (by assumption) ?_; conv => whnf) | (refine get_of (by assumption) ?_; conv => whnf) | (refine get_map (by assumption) ?_; conv => whnf) | (refine call_eq (ih') hC hasBody_49 ?_ ?_ ?_; kernel_rfl; kernel_rfl; conv => whnf) | (refine callq_eq (ih') hC hasBody_49 ?_ ?_ ?_; kernel_rfl; kernel_rfl; conv => whnf) | (refine ask (by decide) ?_; conv => whnf) | (refine ask ?_ ?_; (show _ + 1 ≤ 9223372036854775807; omega); conv => whnf) | (refine draw_lex hE ?_ ?_; decide +kernel; conv => whnf) | (refine draw_any hE [⟨1, [(0, none), (1, none), (2, none), (3, none), (4, none), (6, none), (7, none), (8, none), (5, some 0), (9, none), (10, none), (11, none), (12, none)], none, [], [[]]⟩] ?_ ?_; decide +kernel; conv => whnf) | (refine brd (fun h => ?_) (fun h => ?_) <;> conv => whnf) | (refine br (fun h => ?_) (fun h => ?_) <;> conv => whnf) | (refine ret_now hE ?_; conv => whnf) | (intro hlen; conv => whnf) | (refine seg_here ?_; conv => whnf) | (refine both ?_ ?_ <;> conv => whnf))
          exact ⟨rfl, by rw [exW_out (ps := [Ex.mk a u qs]) (by omega), exT_sign (by decide) t [Ex.mk a u qs]]; rfl⟩
end Go.Proofs.Yteappcclfjafeaa
