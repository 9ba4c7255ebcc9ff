/- Names: emit.Name and the document's nameMay, walked; strings.ContainsFunc by its contract. No conditions. -/
import Derived.Test.YtkkcmobnhiiacaaDoorUtfLaw
set_option linter.unusedSimpArgs false
set_option linter.unusedVariables false
set_option maxRecDepth 100000
namespace Go.Proofs.YtkkcmobnhiiacaaDoor
open Go.RowKit

theorem follows_ok {C : Ctx} (hC : C.P = Tryd.prog) : C.P.follows .mixedOrders = true := by rw [hC]; exact follows_all
theorem i64_nat (n : Nat) (h : n < 9223372036854775807) : IntKind.i64.wrap (n : Int) = n := wrap_in _ (by omega) (by omega)
theorem i32_nat (n : Nat) (h : n < 2147483647) : IntKind.i32.wrap (n : Int) = n := by rw [IntKind.wrap_i32]; omega

/-! ### Where a letter of a text answers -/
def sIdx (p : Nat → Bool) (pos : Nat) (t : List UInt8) : Int := if h : t = [] then -1 else if p (decL t).1 then pos else sIdx p (pos + (decL t).2) (t.drop (decL t).2)
termination_by t.length
decreasing_by
  have := (decL_le t).2.1
  have : 0 < t.length := List.length_pos_iff.2 h
  simp only [List.length_drop]; omega
theorem sIdx_nil (p : Nat → Bool) (pos : Nat) : sIdx p pos [] = -1 := by rw [sIdx]; simp
theorem sIdx_step (p : Nat → Bool) (pos : Nat) {t : List UInt8} (h : t ≠ []) : sIdx p pos t = if p (decL t).1 then (pos : Int) else sIdx p (pos + (decL t).2) (t.drop (decL t).2) := by
  rw [sIdx]; simp [h]
theorem sIdx_any (p : Nat → Bool) (n : Nat) : ∀ (pos : Nat) (t : List UInt8), t.length ≤ n → decide (0 ≤ sIdx p pos t) = (runesL t).any p := by
  induction n with
  | zero => intro pos t ht; rw [List.length_eq_zero_iff.1 (Nat.le_zero.1 ht), sIdx_nil, runesL_nil]; rfl
  | succ n ih =>
    intro pos t ht
    by_cases h : t = []
    · rw [h, sIdx_nil, runesL_nil]; rfl
    · have h1 := (decL_le t).2.1
      have h3 : 0 < t.length := List.length_pos_iff.2 h
      rw [sIdx_step p pos h, runesL_step h, List.any_cons]
      by_cases hp : p (decL t).1 = true
      · rw [if_pos hp, hp, Bool.true_or]; exact decide_eq_true (by omega)
      · rw [if_neg hp, ih _ _ (by rw [List.length_drop]; omega)]
        simp only [Bool.not_eq_true] at hp
        rw [hp, Bool.false_or]
theorem sIdx_at (p : Nat → Bool) {s : List UInt8} {pos : Nat} (h : pos < s.length) : sIdx p pos (s.drop pos) = if p (dec s pos).1 then (pos : Int) else sIdx p (pos + (dec s pos).2) (s.drop (pos + (dec s pos).2)) := by
  rw [sIdx_step p pos (fun e => by have := congrArg List.length e; simp at this; omega), dec_eq, List.drop_drop]

theorem index_func (s : List UInt8) (h : FuncId) (caps : List V) (p : Nat → Bool) (hb : hasBody Tryd.prog h = true) (hc : nrB caps = true) (hp : ∀ n : Nat, Fn1 Tryd.prog h (.int .i32 (n : Int) :: caps) (fun r => r = .bool (p n))) :
    Fn1 Tryd.prog 115 [.str s, .fn h caps, .bool true] (fun r => r = .int .i64 (sIdx p 0 s)) := by
  refine fn1E (T := Tryd.tt) Tryd.func115 rfl tt_all follows_all ?_ ?_ fun C hC hE => ?_
  · kernel_rfl
  · exact Nat.le_of_ble_eq_true (by kernel_rfl)
  conv => whnf
  refine loopE (fun pos : Nat => ⟨21, [(1, .fn h caps), (2, .bool true), (10, .it 0)], [some (.iter s pos)]⟩) (fun pos => sIdx p pos (s.drop pos) = sIdx p 0 s) (fun pos => s.length + 4 - pos) 0 hE ?_ ?_ rfl ?_
  · kernel_rfl
  · exact at_keep [1, 2, 10] rfl
  intro pos hpos
  by_cases hlt : pos < s.length
  · have hat := sIdx_at p hlt
    have hd := (decL_le (s.drop pos)).2.1
    rw [← dec_eq] at hd
    have hd2 := (decL_le (s.drop pos)).2.2
    rw [← dec_eq] at hd2
    have hpn := hp (dec s pos).1
    conv => whnf
    repeat' (first | (refine brd_t (by first | assumption | omega) ?_; conv => whnf) | (refine brd_f (by first | assumption | omega) ?_; conv => whnf) | (refine ask (by first | assumption | omega) ?_; conv => whnf) | (refine fit64 (by omega) ?_; conv => whnf) | (refine fit (by simp only [kmin, kmax]; omega) ?_; conv => whnf) | (refine br_t (by assumption) ?_; conv => whnf) | (refine br_f (by assumption) ?_; conv => whnf) | (refine get_of (by assumption) ?_; conv => whnf) | (refine get_map (by assumption) ?_; conv => whnf) | (refine call_eq hpn hC hb ?_ ?_ ?_; kernel_rfl; exact nrB_tail (by kernel_rfl) hc; conv => whnf) | (refine draw_lex hE ?_ ?_; decide +kernel; conv => whnf) | (refine brd (fun h => ?_) (fun h => ?_) <;> conv => whnf) | (refine br (fun h => ?_) (fun h => ?_) <;> conv => whnf) | (refine ret_now hE ?_; conv => whnf) | (intro hlen; conv => whnf) | (refine seg_here ?_; conv => whnf) | (refine both ?_ ?_ <;> conv => whnf))
    · exact ⟨rfl, by rw [← hpos, hat, if_pos (by assumption)]⟩
    · refine next_keep [1, 2, 10] (pos + (dec s pos).2) ?_ (by omega) rfl
      rw [← hpos, hat, if_neg (by simp only [Bool.not_eq_true]; assumption)]
  · have he : sIdx p 0 s = -1 := by rw [← hpos, List.drop_of_length_le (by omega), sIdx_nil]
    conv => whnf
    repeat' (first | (refine brd_t (by first | assumption | omega) ?_; conv => whnf) | (refine brd_f (by first | assumption | omega) ?_; conv => whnf) | (refine ask (by first | assumption | omega) ?_; conv => whnf) | (refine fit64 (by omega) ?_; conv => whnf) | (refine fit (by simp only [kmin, kmax]; omega) ?_; conv => whnf) | (refine br_t (by assumption) ?_; conv => whnf) | (refine br_f (by assumption) ?_; conv => whnf) | (refine get_of (by assumption) ?_; conv => whnf) | (refine get_map (by assumption) ?_; conv => whnf) | (refine draw_lex hE ?_ ?_; decide +kernel; conv => whnf) | (refine brd (fun h => ?_) (fun h => ?_) <;> conv => whnf) | (refine br (fun h => ?_) (fun h => ?_) <;> conv => whnf) | (refine ret_now hE ?_; conv => whnf) | (intro hlen; conv => whnf) | (refine seg_here ?_; conv => whnf) | (refine both ?_ ?_ <;> conv => whnf))
    exact ⟨rfl, by rw [he]⟩

theorem IndexFunc (s : List UInt8) (h : FuncId) (caps : List V) (p : Nat → Bool) (hb : hasBody Tryd.prog h = true) (hc : nrB caps = true) (hp : ∀ n : Nat, Fn1 Tryd.prog h (.int .i32 (n : Int) :: caps) (fun r => r = .bool (p n))) :
    Fn1 Tryd.prog 105 [.str s, .fn h caps] (fun r => r = .int .i64 (sIdx p 0 s)) := by
  refine fn1E (T := Tryd.tt) Tryd.func105 rfl tt_all follows_all ?_ ?_ fun C hC hE => ?_
  · kernel_rfl
  · exact Nat.le_of_ble_eq_true (by kernel_rfl)
  conv => whnf
  repeat' (first | (refine brd_t (by first | assumption | omega) ?_; conv => whnf) | (refine brd_f (by first | assumption | omega) ?_; conv => whnf) | (refine ask (by first | assumption | omega) ?_; conv => whnf) | (refine fit64 (by omega) ?_; conv => whnf) | (refine fit (by simp only [kmin, kmax]; omega) ?_; conv => whnf) | (refine br_t (by assumption) ?_; conv => whnf) | (refine br_f (by assumption) ?_; conv => whnf) | (refine get_of (by assumption) ?_; conv => whnf) | (refine get_map (by assumption) ?_; conv => whnf) | (refine call_eq (index_func s h caps p hb hc hp) hC hasBody_115 ?_ ?_ ?_; kernel_rfl; (simp [nrB, nrV, hc]); conv => whnf) | (refine draw_lex hE ?_ ?_; decide +kernel; conv => whnf) | (refine brd (fun h => ?_) (fun h => ?_) <;> conv => whnf) | (refine br (fun h => ?_) (fun h => ?_) <;> conv => whnf) | (refine ret_now hE ?_; conv => whnf) | (intro hlen; conv => whnf) | (refine seg_here ?_; conv => whnf) | (refine both ?_ ?_ <;> conv => whnf))
  exact ⟨rfl, rfl⟩
theorem contains_fn (s : List UInt8) (h : FuncId) (caps : List V) (p : Nat → Bool) (hb : hasBody Tryd.prog h = true) (hc : nrB caps = true) (hp : ∀ n : Nat, Fn1 Tryd.prog h (.int .i32 (n : Int) :: caps) (fun r => r = .bool (p n))) :
    Fn1 Tryd.prog 87 [.str s, .fn h caps] (fun r => r = .bool ((runesL s).any p)) := by
  have ha := sIdx_any p _ 0 s (Nat.le_refl _)
  refine fn1E (T := Tryd.tt) Tryd.func87 rfl tt_all follows_all ?_ ?_ fun C hC hE => ?_
  · kernel_rfl
  · exact Nat.le_of_ble_eq_true (by kernel_rfl)
  conv => whnf
  repeat' (first | (refine brd_t (by first | assumption | omega) ?_; conv => whnf) | (refine brd_f (by first | assumption | omega) ?_; conv => whnf) | (refine ask (by first | assumption | omega) ?_; conv => whnf) | (refine fit64 (by omega) ?_; conv => whnf) | (refine fit (by simp only [kmin, kmax]; omega) ?_; conv => whnf) | (refine br_t (by assumption) ?_; conv => whnf) | (refine br_f (by assumption) ?_; conv => whnf) | (refine get_of (by assumption) ?_; conv => whnf) | (refine get_map (by assumption) ?_; conv => whnf) | (refine call_eq (IndexFunc s h caps p hb hc hp) hC hasBody_105 ?_ ?_ ?_; kernel_rfl; exact nrB_fn rfl hc; conv => whnf) | (refine draw_lex hE ?_ ?_; decide +kernel; conv => whnf) | (refine brd (fun h => ?_) (fun h => ?_) <;> conv => whnf) | (refine br (fun h => ?_) (fun h => ?_) <;> conv => whnf) | (refine ret_now hE ?_; conv => whnf) | (intro hlen; conv => whnf) | (refine seg_here ?_; conv => whnf) | (refine both ?_ ?_ <;> conv => whnf))
  all_goals exact ⟨rfl, by rw [← ha]; congr 1; first | exact (decide_eq_true (by assumption)).symm | exact (decide_eq_false (by assumption)).symm⟩

/-! ### Names -/
def isLow (n : Nat) : Bool := decide (97 ≤ n) && decide (n ≤ 122)
def isDig (n : Nat) : Bool := decide (48 ≤ n) && decide (n ≤ 57)
def badR (n : Nat) : Bool := !(isLow n || isDig n || decide (n = 45))
def nameOk (s : List UInt8) : Bool := decide (1 ≤ s.length) && decide (s.length ≤ 12) && isLow (bt s 0) && !(s.any fun c => badR c.toNat)

theorem decF_ge {A B C D : Nat} {c1 c2 c3 : Bool} (h : ¬ A < 128) : 128 ≤ (decF A B C D c1 c2 c3).1 := by
  unfold decF
  rw [if_neg h]
  repeat' split
  all_goals first | (simp only [Bool.and_eq_true, decide_eq_true_eq, ge_iff_le] at *; omega) | (show 128 ≤ 65533; decide)
theorem runes_bad (n : Nat) : ∀ s : List UInt8, s.length ≤ n → (runesL s).any badR = s.any fun c => badR c.toNat := by
  induction n with
  | zero => intro s hs; rw [List.length_eq_zero_iff.1 (Nat.le_zero.1 hs), runesL_nil]; rfl
  | succ n ih =>
    intro s hs
    match s with
    | [] => rw [runesL_nil]; rfl
    | c :: t =>
      rw [runesL_step (by simp), List.any_cons, List.any_cons]
      by_cases hc : c.toNat < 128
      · have : decL (c :: t) = (c.toNat, 1) := decF_1 hc
        rw [this]
        simp only [List.drop_succ_cons, List.drop_zero]
        rw [ih t (by simp only [List.length_cons] at hs; omega)]
      · have h1 : 128 ≤ (decL (c :: t)).1 := decF_ge hc
        have b1 : badR (decL (c :: t)).1 = true := by unfold badR isLow isDig; simp; omega
        have b2 : badR c.toNat = true := by unfold badR isLow isDig; simp; omega
        rw [b1, b2, Bool.true_or, Bool.true_or]

theorem name1 (n : Nat) : Fn1 Tryd.prog 88 [.int .i32 (n : Int)] (fun r => r = .bool (badR n)) := by
  refine fn1E (T := Tryd.tt) Tryd.func88 rfl tt_all follows_all ?_ ?_ fun C hC hE => ?_
  · kernel_rfl
  · exact Nat.le_of_ble_eq_true (by kernel_rfl)
  conv => whnf
  repeat' (first | (refine brd_t (by first | assumption | omega) ?_; conv => whnf) | (refine brd_f (by first | assumption | omega) ?_; conv => whnf) | (refine ask (by first | assumption | omega) ?_; conv => whnf) | (refine fit64 (by omega) ?_; conv => whnf) | (refine fit (by simp only [kmin, kmax]; omega) ?_; conv => whnf) | (refine br_t (by assumption) ?_; conv => whnf) | (refine br_f (by assumption) ?_; conv => whnf) | (refine get_of (by assumption) ?_; conv => whnf) | (refine get_map (by assumption) ?_; conv => whnf) | (refine draw_lex hE ?_ ?_; decide +kernel; conv => whnf) | (refine brd (fun h => ?_) (fun h => ?_) <;> conv => whnf) | (refine br (fun h => ?_) (fun h => ?_) <;> conv => whnf) | (refine ret_now hE ?_; conv => whnf) | (intro hlen; conv => whnf) | (refine seg_here ?_; conv => whnf) | (refine both ?_ ?_ <;> conv => whnf))
  all_goals (refine ⟨rfl, ?_⟩; congr 1; unfold badR isLow isDig; rw [eq_comm]; simp; omega)

theorem bt_head {s : List UInt8} {c : UInt8} (h : s[0]? = some c) : bt s 0 = c.toNat := by unfold bt; simp [List.getD, h]
theorem nameOk_of (s : List UInt8) (c : UInt8) (hc : s[0]? = some c) : nameOk s = (decide (s.length ≤ 12) && isLow c.toNat && !((runesL s).any badR)) := by
  have h1 : 1 ≤ s.length := by have := (List.getElem?_eq_some_iff.1 hc).1; omega
  unfold nameOk
  rw [bt_head hc, runes_bad _ s (Nat.le_refl _), decide_eq_true h1, Bool.true_and]
theorem emit_name (s : List UInt8) : Fn1 Tryd.prog 59 [.str s] (fun r => r = .bool (nameOk s)) := by
  by_cases h0 : s = []
  · refine fn1E (T := Tryd.tt) Tryd.func59 rfl tt_all follows_all ?_ ?_ fun C hC hE => ?_
    · kernel_rfl
    · exact Nat.le_of_ble_eq_true (by kernel_rfl)
    conv => whnf
    repeat' (first | (refine brd_t (by first | assumption | omega) ?_; conv => whnf) | (refine brd_f (by first | assumption | omega) ?_; conv => whnf) | (refine ask (by first | assumption | omega) ?_; conv => whnf) | (refine fit64 (by omega) ?_; conv => whnf) | (refine fit (by simp only [kmin, kmax]; omega) ?_; conv => whnf) | (refine br_t (by assumption) ?_; conv => whnf) | (refine br_f (by assumption) ?_; conv => whnf) | (refine get_of (by assumption) ?_; conv => whnf) | (refine get_map (by assumption) ?_; conv => whnf) | (refine draw_lex hE ?_ ?_; decide +kernel; conv => whnf) | (refine brd (fun h => ?_) (fun h => ?_) <;> conv => whnf) | (refine br (fun h => ?_) (fun h => ?_) <;> conv => whnf) | (refine ret_now hE ?_; conv => whnf) | (intro hlen; conv => whnf) | (refine seg_here ?_; conv => whnf) | (refine both ?_ ?_ <;> conv => whnf))
    exact ⟨rfl, by rw [h0]; rfl⟩
  · obtain ⟨c, hc⟩ : ∃ c, s[0]? = some c := ⟨_, List.getElem?_eq_getElem (List.length_pos_iff.2 h0)⟩
    have hk := nameOk_of s c hc
    refine fn1E (T := Tryd.tt) Tryd.func59 rfl tt_all follows_all ?_ ?_ fun C hC hE => ?_
    · kernel_rfl
    · exact Nat.le_of_ble_eq_true (by kernel_rfl)
    conv => whnf
    repeat' (first | (refine brd_t (by first | assumption | omega) ?_; conv => whnf) | (refine brd_f (by first | assumption | omega) ?_; conv => whnf) | (refine ask (by first | assumption | omega) ?_; conv => whnf) | (refine fit64 (by omega) ?_; conv => whnf) | (refine fit (by simp only [kmin, kmax]; omega) ?_; conv => whnf) | (refine br_t (by assumption) ?_; conv => whnf) | (refine br_f (by assumption) ?_; conv => whnf) | (refine get_of (by assumption) ?_; conv => whnf) | (refine get_map (by assumption) ?_; conv => whnf) | (refine call_eq (contains_fn s 88 [] badR hasBody_88 rfl name1) hC hasBody_87 ?_ ?_ ?_; kernel_rfl; kernel_rfl; conv => whnf) | (refine draw_lex hE ?_ ?_; decide +kernel; conv => whnf) | (refine brd (fun h => ?_) (fun h => ?_) <;> conv => whnf) | (refine br (fun h => ?_) (fun h => ?_) <;> conv => whnf) | (refine ret_now hE ?_; conv => whnf) | (intro hlen; conv => whnf) | (refine seg_here ?_; conv => whnf) | (refine both ?_ ?_ <;> conv => whnf))
    all_goals (refine ⟨rfl, ?_⟩; rw [hk]; unfold isLow; congr 1; rw [eq_comm]; simp_all; try omega)
end Go.Proofs.YtkkcmobnhiiacaaDoor
