/- The document's UrlScheme, walked; the law UrlSchemes. No conditions. -/
import Derived.Test.YtkkcmobnhiiacaaGreatDoorRep
/-! The law UrlStrips. No conditions. -/
set_option linter.unusedSimpArgs false
set_option linter.unusedVariables false
set_option maxRecDepth 100000
namespace Go.Proofs.YtkkcmobnhiiacaaGreatDoor
open Go.RowKit

end Go.Proofs.YtkkcmobnhiiacaaGreatDoor

/-! Schemes of addresses: what both sides answer; both walked. No conditions. -/
namespace Go.Proofs.YtkkcmobnhiiacaaGreatDoor
open Go.RowKit

/-! ### Plain words -/
def tailC (c : UInt8) : Bool := (decide (48 ≤ c.toNat) && decide (c.toNat ≤ 57)) || decide (c.toNat = 43) || decide (c.toNat = 45) || decide (c.toNat = 46)
/-- Where the colon of a scheme is. -/
def schAt : Nat → List UInt8 → Option Nat
  | _, [] => none
  | i, c :: l => if alphaB c = true ∨ (0 < i ∧ tailC c = true) then schAt (i + 1) l else if c.toNat = 58 ∧ 0 < i then some i else none
def schR (u : List UInt8) : List UInt8 × Bool := match schAt 0 u with | some i => (smallL (u.take i), true) | none => ([], false)
def okC (c : UInt8) : Bool := alphaB c || tailC c
theorem okC_58 {c : UInt8} (h : c.toNat = 58) : okC c = false := by
  simp only [okC, alphaB, tailC, h]; decide
def colon (l : List UInt8) : Nat := (l.takeWhile fun c => !decide (c.toNat = 58)).length
theorem colon_nil : colon [] = 0 := rfl
theorem colon_cons (c : UInt8) (l : List UInt8) : colon (c :: l) = if c.toNat = 58 then 0 else colon l + 1 := by
  unfold colon
  by_cases h : c.toNat = 58 <;> simp [h]
theorem colon_le : ∀ l : List UInt8, colon l ≤ l.length
  | [] => Nat.le_refl _
  | c :: l => by
    have := colon_le l
    rw [colon_cons]
    split <;> simp <;> omega
theorem schAt_pos : ∀ (l : List UInt8) (i : Nat), 0 < i → schAt i l = if colon l < l.length ∧ (l.take (colon l)).all okC = true then some (i + colon l) else none
  | [], i, _ => by simp [schAt, colon_nil]
  | c :: l, i, hi => by
    rw [schAt, colon_cons]
    by_cases h : c.toNat = 58
    · have ho := okC_58 h
      have h1 : alphaB c = false ∧ tailC c = false := by simpa [okC] using ho
      simp [h1.1, h1.2, h, hi]
    · by_cases ho : okC c = true
      · have h1 : alphaB c = true ∨ (0 < i ∧ tailC c = true) := by
          unfold okC at ho
          rcases (by simpa using ho : alphaB c = true ∨ tailC c = true) with e | e
          · exact .inl e
          · exact .inr ⟨hi, e⟩
        rw [if_pos h1, schAt_pos l (i + 1) (by omega), if_neg h]
        simp only [List.length_cons, List.take_succ_cons, List.all_cons, ho, Bool.true_and, Nat.add_lt_add_iff_right]
        split
        · congr 1; omega
        · rfl
      · have h1 : ¬ (alphaB c = true ∨ (0 < i ∧ tailC c = true)) := by
          unfold okC at ho
          simp at ho
          rintro (e | ⟨_, e⟩)
          · rw [ho.1] at e; cases e
          · rw [ho.2] at e; cases e
        rw [if_neg h1, if_neg (fun e => h e.1), if_neg h]
        simp [ho]
theorem schAt_zero (u : List UInt8) : schAt 0 u = if 0 < colon u ∧ colon u < u.length ∧ (∃ c, u[0]? = some c ∧ alphaB c = true) ∧ (u.take (colon u)).all okC = true then some (colon u) else none := by
  cases u with
  | nil => simp [schAt, colon_nil]
  | cons c l =>
    rw [schAt, colon_cons]
    by_cases ha : alphaB c = true
    · have h58 : ¬ c.toNat = 58 := fun e => by
        have := okC_58 e
        simp [okC, ha] at this
      rw [if_pos (.inl ha), schAt_pos l 1 (by omega), if_neg h58]
      have ho : okC c = true := by simp [okC, ha]
      simp only [List.length_cons, List.take_succ_cons, List.all_cons, ho, Bool.true_and, Nat.add_lt_add_iff_right, List.getElem?_cons_zero, Option.some.injEq, exists_eq_left', ha, true_and, Nat.zero_lt_succ]
      split
      · congr 1; omega
      · rfl
    · rw [if_neg (by rintro (e | ⟨e, _⟩); exact ha e; omega), if_neg (fun e => by omega), if_neg]
      rintro ⟨_, _, ⟨d, hd, hda⟩, _⟩
      simp at hd
      subst hd
      exact ha hda
theorem schAt_lt {u : List UInt8} {i : Nat} (h : schAt 0 u = some i) : i < u.length := by
  rw [schAt_zero] at h
  split at h
  · rename_i hc; simp at h; omega
  · cases h
theorem index_colon (l : List UInt8) : Lib.index l [58] = if colon l < l.length then (colon l : Int) else -1 := by
  induction l with
  | nil => rfl
  | cons c l ih =>
    rw [index_cons, colon_cons, ih]
    by_cases h : c.toNat = 58
    · have hc : c = 58 := UInt8.toNat_inj.1 h
      subst hc
      simp [List.isPrefixOf]
    · have hp : List.isPrefixOf [(58 : UInt8)] (c :: l) = false := by
        simp [List.isPrefixOf]
        intro e
        exact h (by rw [← e]; rfl)
      rw [hp, if_neg (by decide), if_neg h]
      have := colon_le l
      simp only [List.length_cons]
      by_cases hl : colon l < l.length
      · rw [if_pos hl, if_neg (by omega), if_pos (by omega)]; push_cast; rfl
      · rw [if_neg hl, if_pos rfl, if_neg (by omega)]
theorem urlS_le (s : List UInt8) : (urlS s).length ≤ s.length := by
  refine Nat.le_trans (List.length_filter_le _ _) ?_
  rw [← trim_ctl]
  exact trimS_len s ctl
theorem smallL_len (l : List UInt8) : (smallL l).length = l.length := by simp [smallL]
end Go.Proofs.YtkkcmobnhiiacaaGreatDoor

/-! url.Scheme and the document's UrlScheme, walked. No conditions. -/
namespace Go.Proofs.YtkkcmobnhiiacaaGreatDoor
open Go.RowKit

set_option maxHeartbeats 8000000 in
theorem url_scheme (s : List UInt8) (hs : s.length ≤ 140737488352000) : Fn1 Tryz.prog 12 [.str s] (fun r => r = .tup [.str (schR (urlS s)).1, .bool (schR (urlS s)).2]) := by
  have h1 := url_walk s (by omega)
  have hul := urlS_le s
  generalize urlS s = u at *
  refine fn1E (T := Tryz.tt) Tryz.func12 rfl tt_all follows_all ?_ ?_ fun C hC hE => ?_
  · kernel_rfl
  · exact Nat.le_of_ble_eq_true (by kernel_rfl)
  conv => whnf
  repeat' (first | (refine brd_t (by first | assumption | omega) ?_; conv => whnf) | (refine brd_f (by first | assumption | omega) ?_; conv => whnf) | (refine ask (by first | assumption | omega) ?_; conv => whnf) | (refine fit64 (by omega) ?_; conv => whnf) | (refine fit (by simp only [kmin, kmax]; omega) ?_; conv => whnf) | (refine br_t (by assumption) ?_; conv => whnf) | (refine br_f (by assumption) ?_; conv => whnf) | (refine get_of (by assumption) ?_; conv => whnf) | (refine get_map (by assumption) ?_; conv => whnf) | (refine call_eq (h1) hC hasBody_20 ?_ ?_ ?_; kernel_rfl; kernel_rfl; conv => whnf) | (refine callq_eq (h1) hC hasBody_20 ?_ ?_ ?_; kernel_rfl; kernel_rfl; conv => whnf) | (refine draw_lex hE ?_ ?_; decide +kernel; conv => whnf) | (refine brd (fun h => ?_) (fun h => ?_) <;> conv => whnf) | (refine br (fun h => ?_) (fun h => ?_) <;> conv => whnf) | (refine ret_now hE ?_; conv => whnf) | (intro hlen; conv => whnf) | (refine seg_here ?_; conv => whnf) | (refine both ?_ ?_ <;> conv => whnf))
  refine loopE (fun i : Nat => ⟨53, [(0, .str u), (9, .int .i64 u.length), (10, .int .i64 i)], []⟩) (fun i => i ≤ u.length ∧ schAt 0 u = schAt i (u.drop i)) (fun i => u.length - i) 0 hE ?_ ?_ ⟨Nat.zero_le _, rfl⟩ ?_
  · kernel_rfl
  · exact at_keep [0, 9, 10] rfl
  rintro i ⟨hi, hI⟩
  have hi : i ≤ u.length := hi
  have hI : schAt 0 u = schAt i (u.drop i) := hI
  by_cases hlt : i < u.length
  · obtain ⟨c, hx⟩ : ∃ c, u[i]? = some c := ⟨_, List.getElem?_eq_getElem hlt⟩
    have hc := c.toNat_lt
    have hd : u.drop i = c :: u.drop (i + 1) := by
      obtain ⟨hl, hq⟩ := List.getElem?_eq_some_iff.1 hx
      rw [← hq]
      exact List.drop_eq_getElem_cons hl
    rw [hd, schAt] at hI
    have hlet := url_letter c
    by_cases ha : alphaB c = true
    · rw [ha] at hlet
      rw [if_pos (.inl ha)] at hI
      conv => whnf
      repeat' (first | (refine brd_t (by first | assumption | omega) ?_; conv => whnf) | (refine brd_f (by first | assumption | omega) ?_; conv => whnf) | (refine ask (by first | assumption | omega) ?_; conv => whnf) | (refine fit64 (by omega) ?_; conv => whnf) | (refine fit (by simp only [kmin, kmax]; omega) ?_; conv => whnf) | (refine br_t (by assumption) ?_; conv => whnf) | (refine br_f (by assumption) ?_; conv => whnf) | (refine get_of (by assumption) ?_; conv => whnf) | (refine get_map (by assumption) ?_; conv => whnf) | (refine get_of hx ?_; conv => whnf) | (refine call_eq (hlet) hC hasBody_21 ?_ ?_ ?_; kernel_rfl; kernel_rfl; conv => whnf) | (refine callq_eq (hlet) hC hasBody_21 ?_ ?_ ?_; kernel_rfl; kernel_rfl; conv => whnf) | (refine draw_lex hE ?_ ?_; decide +kernel; conv => whnf) | (refine brd (fun h => ?_) (fun h => ?_) <;> conv => whnf) | (refine br (fun h => ?_) (fun h => ?_) <;> conv => whnf) | (refine ret_now hE ?_; conv => whnf) | (intro hlen; conv => whnf) | (refine seg_here ?_; conv => whnf) | (refine both ?_ ?_ <;> conv => whnf))
      all_goals exact next_keep [0, 9, 10] (i + 1) ⟨hlt, hI⟩ (show u.length - (i + 1) < u.length - i by omega) rfl
    · have ha' : alphaB c = false := by simpa using ha
      rw [ha'] at hlet
      by_cases ht : 0 < i ∧ tailC c = true
      · rw [if_pos (.inr ht)] at hI
        have hi0 := ht.1
        have htc : (48 ≤ c.toNat ∧ c.toNat ≤ 57) ∨ c.toNat = 43 ∨ c.toNat = 45 ∨ c.toNat = 46 := by
          have := ht.2
          simp only [tailC, Bool.or_eq_true, Bool.and_eq_true, decide_eq_true_eq] at this
          omega
        conv => whnf
        repeat' (first | (refine brd_t (by first | assumption | omega) ?_; conv => whnf) | (refine brd_f (by first | assumption | omega) ?_; conv => whnf) | (refine ask (by first | assumption | omega) ?_; conv => whnf) | (refine fit64 (by omega) ?_; conv => whnf) | (refine fit (by simp only [kmin, kmax]; omega) ?_; conv => whnf) | (refine br_t (by assumption) ?_; conv => whnf) | (refine br_f (by assumption) ?_; conv => whnf) | (refine get_of (by assumption) ?_; conv => whnf) | (refine get_map (by assumption) ?_; conv => whnf) | (refine get_of hx ?_; conv => whnf) | (refine call_eq (hlet) hC hasBody_21 ?_ ?_ ?_; kernel_rfl; kernel_rfl; conv => whnf) | (refine callq_eq (hlet) hC hasBody_21 ?_ ?_ ?_; kernel_rfl; kernel_rfl; conv => whnf) | (refine draw_lex hE ?_ ?_; decide +kernel; conv => whnf) | (refine brd (fun h => ?_) (fun h => ?_) <;> conv => whnf) | (refine br (fun h => ?_) (fun h => ?_) <;> conv => whnf) | (refine ret_now hE ?_; conv => whnf) | (intro hlen; conv => whnf) | (refine seg_here ?_; conv => whnf) | (refine both ?_ ?_ <;> conv => whnf))
        all_goals first | (exfalso; omega; done) | exact next_keep [0, 9, 10] (i + 1) ⟨hlt, hI⟩ (show u.length - (i + 1) < u.length - i by omega) rfl
      · rw [if_neg (by rintro (e | e); exact ha e; exact ht e)] at hI
        have htc : 0 < i → ¬ ((48 ≤ c.toNat ∧ c.toNat ≤ 57) ∨ c.toNat = 43 ∨ c.toNat = 45 ∨ c.toNat = 46) := by
          intro hi0 h
          refine ht ⟨hi0, ?_⟩
          simp only [tailC, Bool.or_eq_true, Bool.and_eq_true, decide_eq_true_eq]
          omega
        by_cases h58 : c.toNat = 58 ∧ 0 < i
        · rw [if_pos h58] at hI
          have hi0 := h58.2
          have hc58 := h58.1
          have htl : (u.take i).length ≤ 140737488352000 := by simp; omega
          have hsm := tok_smallL (u.take i) htl
          have hR : schR u = (smallL (u.take i), true) := by unfold schR; rw [hI]
          rw [hR]
          conv => whnf
          repeat' (first | (refine brd_t (by first | assumption | omega) ?_; conv => whnf) | (refine brd_f (by first | assumption | omega) ?_; conv => whnf) | (refine ask (by first | assumption | omega) ?_; conv => whnf) | (refine fit64 (by omega) ?_; conv => whnf) | (refine fit (by simp only [kmin, kmax]; omega) ?_; conv => whnf) | (refine br_t (by assumption) ?_; conv => whnf) | (refine br_f (by assumption) ?_; conv => whnf) | (refine get_of (by assumption) ?_; conv => whnf) | (refine get_map (by assumption) ?_; conv => whnf) | (refine get_of hx ?_; conv => whnf) | (refine call_eq (hlet) hC hasBody_21 ?_ ?_ ?_; kernel_rfl; kernel_rfl; conv => whnf) | (refine callq_eq (hlet) hC hasBody_21 ?_ ?_ ?_; kernel_rfl; kernel_rfl; conv => whnf) | (refine call_eq (hsm) hC hasBody_22 ?_ ?_ ?_; kernel_rfl; kernel_rfl; conv => whnf) | (refine callq_eq (hsm) hC hasBody_22 ?_ ?_ ?_; kernel_rfl; kernel_rfl; conv => whnf) | (refine draw_lex hE ?_ ?_; decide +kernel; conv => whnf) | (refine brd (fun h => ?_) (fun h => ?_) <;> conv => whnf) | (refine br (fun h => ?_) (fun h => ?_) <;> conv => whnf) | (refine ret_now hE ?_; conv => whnf) | (intro hlen; conv => whnf) | (refine seg_here ?_; conv => whnf) | (refine both ?_ ?_ <;> conv => whnf))
          all_goals exact ⟨rfl, rfl⟩
        · rw [if_neg h58] at hI
          have hR : schR u = ([], false) := by unfold schR; rw [hI]
          rw [hR]
          conv => whnf
          repeat' (first | (refine brd_t (by first | assumption | omega) ?_; conv => whnf) | (refine brd_f (by first | assumption | omega) ?_; conv => whnf) | (refine ask (by first | assumption | omega) ?_; conv => whnf) | (refine fit64 (by omega) ?_; conv => whnf) | (refine fit (by simp only [kmin, kmax]; omega) ?_; conv => whnf) | (refine br_t (by assumption) ?_; conv => whnf) | (refine br_f (by assumption) ?_; conv => whnf) | (refine get_of (by assumption) ?_; conv => whnf) | (refine get_map (by assumption) ?_; conv => whnf) | (refine get_of hx ?_; conv => whnf) | (refine call_eq (hlet) hC hasBody_21 ?_ ?_ ?_; kernel_rfl; kernel_rfl; conv => whnf) | (refine callq_eq (hlet) hC hasBody_21 ?_ ?_ ?_; kernel_rfl; kernel_rfl; conv => whnf) | (refine draw_lex hE ?_ ?_; decide +kernel; conv => whnf) | (refine brd (fun h => ?_) (fun h => ?_) <;> conv => whnf) | (refine br (fun h => ?_) (fun h => ?_) <;> conv => whnf) | (refine ret_now hE ?_; conv => whnf) | (intro hlen; conv => whnf) | (refine seg_here ?_; conv => whnf) | (refine both ?_ ?_ <;> conv => whnf))
          all_goals first | (exfalso; omega; done) | exact ⟨rfl, rfl⟩
  · have hin : i = u.length := by omega
    subst hin
    rw [List.drop_length, schAt] at hI
    have hR : schR u = ([], false) := by unfold schR; rw [hI]
    rw [hR]
    conv => whnf
    repeat' (first | (refine brd_t (by first | assumption | omega) ?_; conv => whnf) | (refine brd_f (by first | assumption | omega) ?_; conv => whnf) | (refine ask (by first | assumption | omega) ?_; conv => whnf) | (refine fit64 (by omega) ?_; conv => whnf) | (refine fit (by simp only [kmin, kmax]; omega) ?_; conv => whnf) | (refine br_t (by assumption) ?_; conv => whnf) | (refine br_f (by assumption) ?_; conv => whnf) | (refine get_of (by assumption) ?_; conv => whnf) | (refine get_map (by assumption) ?_; conv => whnf) | (refine draw_lex hE ?_ ?_; decide +kernel; conv => whnf) | (refine brd (fun h => ?_) (fun h => ?_) <;> conv => whnf) | (refine br (fun h => ?_) (fun h => ?_) <;> conv => whnf) | (refine ret_now hE ?_; conv => whnf) | (intro hlen; conv => whnf) | (refine seg_here ?_; conv => whnf) | (refine both ?_ ?_ <;> conv => whnf))
    all_goals exact ⟨rfl, rfl⟩
end Go.Proofs.YtkkcmobnhiiacaaGreatDoor

/-! The document's UrlScheme, walked; the law UrlSchemes. No conditions. -/
namespace Go.Proofs.YtkkcmobnhiiacaaGreatDoor
open Go.RowKit

theorem plc_colon (u : List UInt8) : plc u [58] 0 = if colon u < u.length then (colon u : Int) else -1 := by
  unfold plc
  rw [List.drop_zero, index_colon]
  by_cases h : colon u < u.length
  · rw [if_pos h, if_neg (by omega)]; simp
  · rw [if_neg h, if_pos rfl]
theorem schR_none {u : List UInt8} (h : schAt 0 u = none) : schR u = ([], false) := by unfold schR; rw [h]
theorem okC_cases {c : UInt8} (ha : alphaB c = false) : (okC c = true ∧ ((48 ≤ c.toNat ∧ c.toNat ≤ 57) ∨ c.toNat = 43 ∨ c.toNat = 45 ∨ c.toNat = 46)) ∨ (okC c = false ∧ ¬ ((48 ≤ c.toNat ∧ c.toNat ≤ 57) ∨ c.toNat = 43 ∨ c.toNat = 45 ∨ c.toNat = 46)) := by
  cases h : okC c
  · refine .inr ⟨rfl, fun e => ?_⟩
    have : okC c = true := by
      simp only [okC, tailC, Bool.or_eq_true, Bool.and_eq_true, decide_eq_true_eq]
      omega
    rw [this] at h
    cases h
  · refine .inl ⟨rfl, ?_⟩
    simp only [okC, ha, tailC, Bool.false_or, Bool.or_eq_true, Bool.and_eq_true, decide_eq_true_eq] at h
    omega
theorem take_all_succ {u : List UInt8} {i : Nat} {c : UInt8} (h : u[i]? = some c) : (u.take (i + 1)).all okC = ((u.take i).all okC && okC c) := by
  rw [take_snoc' h, List.all_append]
  simp
theorem take_all_le {u : List UInt8} {i n : Nat} (h : i ≤ n) (hf : (u.take i).all okC = false) : (u.take n).all okC = false := by
  have : u.take i = (u.take n).take i := by rw [List.take_take]; congr 1; omega
  rw [this] at hf
  cases hh : (u.take n).all okC
  · rfl
  · exfalso
    have h2 : ((u.take n).take i).all okC = true := by
      rw [List.all_eq_true] at hh ⊢
      exact fun x hx => hh x (List.mem_of_mem_take hx)
    rw [h2] at hf
    cases hf
set_option maxHeartbeats 8000000 in
theorem ref_scheme (s : List UInt8) (hs : s.length ≤ 140737488352000) : Fn1 Tryz.prog 18 [.str s] (fun r => r = .tup [.str (schR (urlS s)).1, .bool (schR (urlS s)).2]) := by
  have h1 := url_strip s hs
  have hul := urlS_le s
  generalize urlS s = u at *
  have hp := place_ofL u [58] 0 (by decide) (Nat.zero_le _) (by omega) (by decide)
  rw [plc_colon] at hp
  have hz := schAt_zero u
  by_cases hcl : colon u < u.length
  · rw [if_pos hcl] at hp
    by_cases hc0 : 0 < colon u
    · obtain ⟨c0, hx0⟩ : ∃ c, u[0]? = some c := ⟨_, List.getElem?_eq_getElem (by omega)⟩
      have hal0 := is_alpha c0
      by_cases ha0 : alphaB c0 = true
      · rw [ha0] at hal0
        have hz2 : schAt 0 u = if (u.take (colon u)).all okC = true then some (colon u) else none := by
          rw [hz]
          by_cases h : (u.take (colon u)).all okC = true
          · rw [if_pos ⟨hc0, hcl, ⟨c0, hx0, ha0⟩, h⟩, if_pos h]
          · rw [if_neg (fun e => h e.2.2.2), if_neg h]
        clear hz
        generalize colon u = n at *
        refine fn1E (T := Tryz.tt) Tryz.func18 rfl tt_all follows_all ?_ ?_ fun C hC hE => ?_
        · kernel_rfl
        · exact Nat.le_of_ble_eq_true (by kernel_rfl)
        conv => whnf
        repeat' (first | (refine brd_t (by first | assumption | omega) ?_; conv => whnf) | (refine brd_f (by first | assumption | omega) ?_; conv => whnf) | (refine ask (by first | assumption | omega) ?_; conv => whnf) | (refine fit64 (by omega) ?_; conv => whnf) | (refine fit (by simp only [kmin, kmax]; omega) ?_; conv => whnf) | (refine br_t (by assumption) ?_; conv => whnf) | (refine br_f (by assumption) ?_; conv => whnf) | (refine get_of (by assumption) ?_; conv => whnf) | (refine get_map (by assumption) ?_; conv => whnf) | (refine call_eq (h1) hC hasBody_25 ?_ ?_ ?_; kernel_rfl; kernel_rfl; conv => whnf) | (refine callq_eq (h1) hC hasBody_25 ?_ ?_ ?_; kernel_rfl; kernel_rfl; conv => whnf) | (refine call_eq (hp) hC hasBody_26 ?_ ?_ ?_; kernel_rfl; kernel_rfl; conv => whnf) | (refine callq_eq (hp) hC hasBody_26 ?_ ?_ ?_; kernel_rfl; kernel_rfl; conv => whnf) | (refine get_of hx0 ?_; conv => whnf) | (refine call_eq (hal0) hC hasBody_27 ?_ ?_ ?_; kernel_rfl; kernel_rfl; conv => whnf) | (refine callq_eq (hal0) hC hasBody_27 ?_ ?_ ?_; kernel_rfl; kernel_rfl; conv => whnf) | (refine draw_lex hE ?_ ?_; decide +kernel; conv => whnf) | (refine brd (fun h => ?_) (fun h => ?_) <;> conv => whnf) | (refine br (fun h => ?_) (fun h => ?_) <;> conv => whnf) | (refine ret_now hE ?_; conv => whnf) | (intro hlen; conv => whnf) | (refine seg_here ?_; conv => whnf) | (refine both ?_ ?_ <;> conv => whnf))
        refine loopE (fun i : Nat => ⟨62, [(0, .str u), (4, .int .i64 n), (5, .int .i64 i)], []⟩) (fun i => i ≤ n ∧ (u.take i).all okC = true) (fun i => n - i) 0 hE ?_ ?_ ⟨Nat.zero_le _, rfl⟩ ?_
        · kernel_rfl
        · exact at_keep [0, 4, 5] rfl
        rintro i ⟨hi, hA⟩
        have hi : i ≤ n := hi
        have hA : (u.take i).all okC = true := hA
        by_cases hlt : i < n
        · obtain ⟨c, hx⟩ : ∃ c, u[i]? = some c := ⟨_, List.getElem?_eq_getElem (by omega)⟩
          have hc := c.toNat_lt
          have hal := is_alpha c
          have hst := take_all_succ hx
          rw [hA, Bool.true_and] at hst
          by_cases ha : alphaB c = true
          · rw [ha] at hal
            have hok : okC c = true := by simp [okC, ha]
            rw [hok] at hst
            conv => whnf
            repeat' (first | (refine brd_t (by first | assumption | omega) ?_; conv => whnf) | (refine brd_f (by first | assumption | omega) ?_; conv => whnf) | (refine ask (by first | assumption | omega) ?_; conv => whnf) | (refine fit64 (by omega) ?_; conv => whnf) | (refine fit (by simp only [kmin, kmax]; omega) ?_; conv => whnf) | (refine br_t (by assumption) ?_; conv => whnf) | (refine br_f (by assumption) ?_; conv => whnf) | (refine get_of (by assumption) ?_; conv => whnf) | (refine get_map (by assumption) ?_; conv => whnf) | (refine get_of hx ?_; conv => whnf) | (refine call_eq (hal) hC hasBody_27 ?_ ?_ ?_; kernel_rfl; kernel_rfl; conv => whnf) | (refine callq_eq (hal) hC hasBody_27 ?_ ?_ ?_; kernel_rfl; kernel_rfl; conv => whnf) | (refine draw_lex hE ?_ ?_; decide +kernel; conv => whnf) | (refine brd (fun h => ?_) (fun h => ?_) <;> conv => whnf) | (refine br (fun h => ?_) (fun h => ?_) <;> conv => whnf) | (refine ret_now hE ?_; conv => whnf) | (intro hlen; conv => whnf) | (refine seg_here ?_; conv => whnf) | (refine both ?_ ?_ <;> conv => whnf))
            all_goals first | (exfalso; omega; done) | exact next_keep [0, 4, 5] (i + 1) ⟨hlt, hst⟩ (show n - (i + 1) < n - i by omega) rfl
          · have ha' : alphaB c = false := by simpa using ha
            rw [ha'] at hal
            rcases okC_cases ha' with ⟨hok, hcc⟩ | ⟨hok, hcc⟩
            · rw [hok] at hst
              conv => whnf
              repeat' (first | (refine brd_t (by first | assumption | omega) ?_; conv => whnf) | (refine brd_f (by first | assumption | omega) ?_; conv => whnf) | (refine ask (by first | assumption | omega) ?_; conv => whnf) | (refine fit64 (by omega) ?_; conv => whnf) | (refine fit (by simp only [kmin, kmax]; omega) ?_; conv => whnf) | (refine br_t (by assumption) ?_; conv => whnf) | (refine br_f (by assumption) ?_; conv => whnf) | (refine get_of (by assumption) ?_; conv => whnf) | (refine get_map (by assumption) ?_; conv => whnf) | (refine get_of hx ?_; conv => whnf) | (refine call_eq (hal) hC hasBody_27 ?_ ?_ ?_; kernel_rfl; kernel_rfl; conv => whnf) | (refine callq_eq (hal) hC hasBody_27 ?_ ?_ ?_; kernel_rfl; kernel_rfl; conv => whnf) | (refine draw_lex hE ?_ ?_; decide +kernel; conv => whnf) | (refine brd (fun h => ?_) (fun h => ?_) <;> conv => whnf) | (refine br (fun h => ?_) (fun h => ?_) <;> conv => whnf) | (refine ret_now hE ?_; conv => whnf) | (intro hlen; conv => whnf) | (refine seg_here ?_; conv => whnf) | (refine both ?_ ?_ <;> conv => whnf))
              all_goals first | (exfalso; omega; done) | exact next_keep [0, 4, 5] (i + 1) ⟨hlt, hst⟩ (show n - (i + 1) < n - i by omega) rfl
            · rw [hok] at hst
              have hall := take_all_le (n := n) (by omega : i + 1 ≤ n) hst
              rw [hall, if_neg (by decide)] at hz2
              rw [schR_none hz2]
              conv => whnf
              repeat' (first | (refine brd_t (by first | assumption | omega) ?_; conv => whnf) | (refine brd_f (by first | assumption | omega) ?_; conv => whnf) | (refine ask (by first | assumption | omega) ?_; conv => whnf) | (refine fit64 (by omega) ?_; conv => whnf) | (refine fit (by simp only [kmin, kmax]; omega) ?_; conv => whnf) | (refine br_t (by assumption) ?_; conv => whnf) | (refine br_f (by assumption) ?_; conv => whnf) | (refine get_of (by assumption) ?_; conv => whnf) | (refine get_map (by assumption) ?_; conv => whnf) | (refine get_of hx ?_; conv => whnf) | (refine call_eq (hal) hC hasBody_27 ?_ ?_ ?_; kernel_rfl; kernel_rfl; conv => whnf) | (refine callq_eq (hal) hC hasBody_27 ?_ ?_ ?_; kernel_rfl; kernel_rfl; conv => whnf) | (refine draw_lex hE ?_ ?_; decide +kernel; conv => whnf) | (refine brd (fun h => ?_) (fun h => ?_) <;> conv => whnf) | (refine br (fun h => ?_) (fun h => ?_) <;> conv => whnf) | (refine ret_now hE ?_; conv => whnf) | (intro hlen; conv => whnf) | (refine seg_here ?_; conv => whnf) | (refine both ?_ ?_ <;> conv => whnf))
              all_goals first | (exfalso; omega; done) | exact ⟨rfl, rfl⟩
        · have hin : i = n := by omega
          subst hin
          rw [hA, if_pos rfl] at hz2
          have hR : schR u = (smallL (u.take i), true) := by unfold schR; rw [hz2]
          rw [hR]
          have hlo := ref_loweredL (u.take i) (by simp; omega)
          conv => whnf
          repeat' (first | (refine brd_t (by first | assumption | omega) ?_; conv => whnf) | (refine brd_f (by first | assumption | omega) ?_; conv => whnf) | (refine ask (by first | assumption | omega) ?_; conv => whnf) | (refine fit64 (by omega) ?_; conv => whnf) | (refine fit (by simp only [kmin, kmax]; omega) ?_; conv => whnf) | (refine br_t (by assumption) ?_; conv => whnf) | (refine br_f (by assumption) ?_; conv => whnf) | (refine get_of (by assumption) ?_; conv => whnf) | (refine get_map (by assumption) ?_; conv => whnf) | (refine call_eq (hlo) hC hasBody_28 ?_ ?_ ?_; kernel_rfl; kernel_rfl; conv => whnf) | (refine callq_eq (hlo) hC hasBody_28 ?_ ?_ ?_; kernel_rfl; kernel_rfl; conv => whnf) | (refine draw_lex hE ?_ ?_; decide +kernel; conv => whnf) | (refine brd (fun h => ?_) (fun h => ?_) <;> conv => whnf) | (refine br (fun h => ?_) (fun h => ?_) <;> conv => whnf) | (refine ret_now hE ?_; conv => whnf) | (intro hlen; conv => whnf) | (refine seg_here ?_; conv => whnf) | (refine both ?_ ?_ <;> conv => whnf))
          all_goals exact ⟨rfl, rfl⟩
      · have ha0' : alphaB c0 = false := by simpa using ha0
        rw [ha0'] at hal0
        rw [if_neg (by rintro ⟨_, _, ⟨d, hd, hda⟩, _⟩; rw [hx0] at hd; cases hd; exact ha0 hda)] at hz
        rw [schR_none hz]
        generalize colon u = n at *
        refine fn1E (T := Tryz.tt) Tryz.func18 rfl tt_all follows_all ?_ ?_ fun C hC hE => ?_
        · kernel_rfl
        · exact Nat.le_of_ble_eq_true (by kernel_rfl)
        conv => whnf
        repeat' (first | (refine brd_t (by first | assumption | omega) ?_; conv => whnf) | (refine brd_f (by first | assumption | omega) ?_; conv => whnf) | (refine ask (by first | assumption | omega) ?_; conv => whnf) | (refine fit64 (by omega) ?_; conv => whnf) | (refine fit (by simp only [kmin, kmax]; omega) ?_; conv => whnf) | (refine br_t (by assumption) ?_; conv => whnf) | (refine br_f (by assumption) ?_; conv => whnf) | (refine get_of (by assumption) ?_; conv => whnf) | (refine get_map (by assumption) ?_; conv => whnf) | (refine call_eq (h1) hC hasBody_25 ?_ ?_ ?_; kernel_rfl; kernel_rfl; conv => whnf) | (refine callq_eq (h1) hC hasBody_25 ?_ ?_ ?_; kernel_rfl; kernel_rfl; conv => whnf) | (refine call_eq (hp) hC hasBody_26 ?_ ?_ ?_; kernel_rfl; kernel_rfl; conv => whnf) | (refine callq_eq (hp) hC hasBody_26 ?_ ?_ ?_; kernel_rfl; kernel_rfl; conv => whnf) | (refine get_of hx0 ?_; conv => whnf) | (refine call_eq (hal0) hC hasBody_27 ?_ ?_ ?_; kernel_rfl; kernel_rfl; conv => whnf) | (refine callq_eq (hal0) hC hasBody_27 ?_ ?_ ?_; kernel_rfl; kernel_rfl; conv => whnf) | (refine draw_lex hE ?_ ?_; decide +kernel; conv => whnf) | (refine brd (fun h => ?_) (fun h => ?_) <;> conv => whnf) | (refine br (fun h => ?_) (fun h => ?_) <;> conv => whnf) | (refine ret_now hE ?_; conv => whnf) | (intro hlen; conv => whnf) | (refine seg_here ?_; conv => whnf) | (refine both ?_ ?_ <;> conv => whnf))
        all_goals exact ⟨rfl, rfl⟩
    · rw [if_neg (fun e => hc0 e.1)] at hz
      rw [schR_none hz]
      generalize colon u = n at *
      refine fn1E (T := Tryz.tt) Tryz.func18 rfl tt_all follows_all ?_ ?_ fun C hC hE => ?_
      · kernel_rfl
      · exact Nat.le_of_ble_eq_true (by kernel_rfl)
      conv => whnf
      repeat' (first | (refine brd_t (by first | assumption | omega) ?_; conv => whnf) | (refine brd_f (by first | assumption | omega) ?_; conv => whnf) | (refine ask (by first | assumption | omega) ?_; conv => whnf) | (refine fit64 (by omega) ?_; conv => whnf) | (refine fit (by simp only [kmin, kmax]; omega) ?_; conv => whnf) | (refine br_t (by assumption) ?_; conv => whnf) | (refine br_f (by assumption) ?_; conv => whnf) | (refine get_of (by assumption) ?_; conv => whnf) | (refine get_map (by assumption) ?_; conv => whnf) | (refine call_eq (h1) hC hasBody_25 ?_ ?_ ?_; kernel_rfl; kernel_rfl; conv => whnf) | (refine callq_eq (h1) hC hasBody_25 ?_ ?_ ?_; kernel_rfl; kernel_rfl; conv => whnf) | (refine call_eq (hp) hC hasBody_26 ?_ ?_ ?_; kernel_rfl; kernel_rfl; conv => whnf) | (refine callq_eq (hp) hC hasBody_26 ?_ ?_ ?_; kernel_rfl; kernel_rfl; conv => whnf) | (refine draw_lex hE ?_ ?_; decide +kernel; conv => whnf) | (refine brd (fun h => ?_) (fun h => ?_) <;> conv => whnf) | (refine br (fun h => ?_) (fun h => ?_) <;> conv => whnf) | (refine ret_now hE ?_; conv => whnf) | (intro hlen; conv => whnf) | (refine seg_here ?_; conv => whnf) | (refine both ?_ ?_ <;> conv => whnf))
      all_goals exact ⟨rfl, rfl⟩
  · rw [if_neg hcl] at hp
    rw [if_neg (fun e => hcl e.2.1)] at hz
    rw [schR_none hz]
    refine fn1E (T := Tryz.tt) Tryz.func18 rfl tt_all follows_all ?_ ?_ fun C hC hE => ?_
    · kernel_rfl
    · exact Nat.le_of_ble_eq_true (by kernel_rfl)
    conv => whnf
    repeat' (first | (refine brd_t (by first | assumption | omega) ?_; conv => whnf) | (refine brd_f (by first | assumption | omega) ?_; conv => whnf) | (refine ask (by first | assumption | omega) ?_; conv => whnf) | (refine fit64 (by omega) ?_; conv => whnf) | (refine fit (by simp only [kmin, kmax]; omega) ?_; conv => whnf) | (refine br_t (by assumption) ?_; conv => whnf) | (refine br_f (by assumption) ?_; conv => whnf) | (refine get_of (by assumption) ?_; conv => whnf) | (refine get_map (by assumption) ?_; conv => whnf) | (refine call_eq (h1) hC hasBody_25 ?_ ?_ ?_; kernel_rfl; kernel_rfl; conv => whnf) | (refine callq_eq (h1) hC hasBody_25 ?_ ?_ ?_; kernel_rfl; kernel_rfl; conv => whnf) | (refine call_eq (hp) hC hasBody_26 ?_ ?_ ?_; kernel_rfl; kernel_rfl; conv => whnf) | (refine callq_eq (hp) hC hasBody_26 ?_ ?_ ?_; kernel_rfl; kernel_rfl; conv => whnf) | (refine brd_t rfl ?_; conv => whnf) | (refine draw_lex hE ?_ ?_; decide +kernel; conv => whnf) | (refine brd (fun h => ?_) (fun h => ?_) <;> conv => whnf) | (refine br (fun h => ?_) (fun h => ?_) <;> conv => whnf) | (refine ret_now hE ?_; conv => whnf) | (intro hlen; conv => whnf) | (refine seg_here ?_; conv => whnf) | (refine both ?_ ?_ <;> conv => whnf))
    all_goals exact ⟨rfl, rfl⟩
end Go.Proofs.YtkkcmobnhiiacaaGreatDoor
