/- ref.letter and ref.named, walked. No conditions. -/
import Derived.Test.YtaeeceabnkgnnaaDoorZNum
import Derived.Test.YtaeeceabnkgnnaaDoorZUtf
/-! strings.IndexRune and ContainsAny at the signs "+-_", walked. No conditions. -/
set_option linter.unusedSimpArgs false
set_option linter.unusedVariables false
set_option maxRecDepth 100000
namespace Go.Proofs.YtaeeceabnkgnnaaDoor
open Go.RowKit

def strIs (P : Program) (t : TypeId) : Bool := match P.underlying t with | some .string => true | _ => false
def hasU (P : Program) (t : TypeId) : Bool := match P.underlying t with | some _ => true | _ => false
theorem conv_rune {C : Ctx} {s d : TypeId} {x : Operand} {k : IntKind} {n : Int} {K : V → ES → Prop} {σ : ES} (hs : hasU C.P s = true) (hd : strIs C.P d = true) (hx : σ.val x = .int k n)
    (h : K (.str (Utf8.encode n).data.toList) σ) : OpN C (.convert s d x) K σ :=
  ⟨fun o ho => opOk_pure _ (kst h) fun a w I bl hp => ⟨.string (Utf8.encode n), by
    have := hp.val x
    rw [es_val, hx] at this
    obtain ⟨u, hu⟩ : ∃ u, C.P.underlying s = some u := by
      unfold hasU at hs
      split at hs
      · exact ⟨_, ‹_›⟩
      · simp at hs
    have hd' : C.P.underlying d = some .string := by
      unfold strIs at hd
      split at hd
      · assumption
      · simp at hd
    simp only [execOp, ho, this.inv_int]
    have : (convert s d (.int k n)).run C.P w = .ok (.string (Utf8.encode n)) w := by
      unfold convert
      simp only [Sem.run_bind, run_underlying hu, run_underlying hd', Result.andThen_ok]
      rfl
    simp [this], .pure _ _ (.str _ (by
      have h4 : (Utf8.encode n).size ≤ 4 := by
        unfold Utf8.encode
        simp only
        (repeat' split) <;> simp [ByteArray.size]
      exact Nat.le_trans h4 (by decide)))⟩⟩
theorem enc_last (n : Nat) (h : 128 ≤ n) (hv : letB n = true) : ∃ (p : List UInt8) (b : UInt8), (Utf8.encode n).data.toList = p ++ [b] ∧ 1 ≤ p.length ∧ p.length ≤ 3 ∧ 128 ≤ b.toNat := by
  have hb : ∀ x : Nat, 128 ≤ (UInt8.ofNat (128 + x % 64)).toNat := fun x => by
    rw [UInt8.toNat_ofNat']
    omega
  have hvv : Utf8.valid (n : Int) = true := by
    unfold letB at hv
    have := of_decide_eq_true hv
    unfold Utf8.valid
    simp only [Bool.or_eq_true, Bool.and_eq_true, decide_eq_true_eq]
    omega
  unfold Utf8.encode
  simp only [hvv, if_true, Int.toNat_natCast]
  split
  · omega
  · split
    · exact ⟨[_], _, rfl, by simp, by simp, hb n⟩
    · split
      · exact ⟨[_, _], _, rfl, by simp, by simp, hb n⟩
      · exact ⟨[_, _, _], _, rfl, by simp, by simp, hb n⟩
def irC (n : Nat) : Int := if n = 43 then 0 else if n = 45 then 1 else if n = 95 then 2 else -1
theorem irC_low : ∀ j : Fin 128, Lib.indexByte [43, 45, 95] (UInt8.ofNat j.val) = irC j.val := by decide +kernel
theorem irC_high {n : Nat} (h : 128 ≤ n) : irC n = -1 := by
  unfold irC
  rw [if_neg (by omega), if_neg (by omega), if_neg (by omega)]
theorem idx_none : ∀ j : Fin 128, Lib.indexByte [45, 95] (UInt8.ofNat (128 + j.val)) = -1 ∧ Lib.indexByte [95] (UInt8.ofNat (128 + j.val)) = -1 ∧ Lib.indexByte [] (UInt8.ofNat (128 + j.val)) = -1 := by decide +kernel
set_option maxHeartbeats 4000000 in
theorem index_rune (n : Nat) : Fn1 Tryd.prog 90 [.str [43, 45, 95], .int .i32 n] (fun r => r = .int .i64 (irC n)) := by
  by_cases h1 : n < 128
  · have hix := idx_byte [43, 45, 95] (UInt8.ofNat n)
    rw [irC_low ⟨n, h1⟩, show ((UInt8.ofNat n).toNat : Int) = (n : Int) by rw [UInt8.toNat_ofNat']; omega] at hix
    refine fn1E (T := Tryd.tt) Tryd.func90 rfl tt_all follows_all ?_ ?_ fun C hC hE => ?_
    · kernel_rfl
    · exact Nat.le_of_ble_eq_true (by kernel_rfl)
    conv => whnf
    repeat' (first | (refine brd_t (by first | assumption | omega) ?_; conv => whnf) | (refine brd_f (by first | assumption | omega) ?_; conv => whnf) | (refine ask (by first | assumption | omega) ?_; conv => whnf) | (refine fit64 (by omega) ?_; conv => whnf) | (refine fit (by simp only [kmin, kmax]; omega) ?_; conv => whnf) | (refine br_t (by assumption) ?_; conv => whnf) | (refine br_f (by assumption) ?_; conv => whnf) | (refine get_of (by assumption) ?_; conv => whnf) | (refine get_map (by assumption) ?_; conv => whnf) | (refine call_eq (hix) hC hasBody_33 ?_ ?_ ?_; kernel_rfl; kernel_rfl; conv => whnf) | (refine callq_eq (hix) hC hasBody_33 ?_ ?_ ?_; kernel_rfl; kernel_rfl; conv => whnf) | (refine draw_lex hE ?_ ?_; decide +kernel; conv => whnf) | (refine draw_any hE [⟨0, [(0, none), (1, none), (2, none), (3, none), (4, none), (5, none), (6, none)], none, [], [[]]⟩] ?_ ?_; decide +kernel; conv => whnf) | (refine draw_any hE [⟨0, [(0, none), (1, none), (2, none), (3, none), (4, none), (5, none), (6, none), (7, none), (8, none)], none, [], [[]]⟩] ?_ ?_; decide +kernel; conv => whnf) | (refine draw_any hE [⟨0, [(0, none), (1, none), (2, none), (3, none), (4, none), (5, none), (6, none), (7, none), (8, none), (9, none), (10, none)], none, [], [[]]⟩] ?_ ?_; decide +kernel; conv => whnf) | (refine brd (fun h => ?_) (fun h => ?_) <;> conv => whnf) | (refine br (fun h => ?_) (fun h => ?_) <;> conv => whnf) | (refine ret_now hE ?_; conv => whnf) | (intro hlen; conv => whnf) | (refine seg_here ?_; conv => whnf) | (refine both ?_ ?_ <;> conv => whnf))
    all_goals exact ⟨rfl, rfl⟩
  · have hi := irC_high (n := n) (by omega)
    rw [hi]
    by_cases h2 : n = 65533
    · subst h2
      have hl3 : ([43, 45, 95] : List UInt8).length = 3 := rfl
      have hd0 : dec [43, 45, 95] 0 = (43, 1) := by decide +kernel
      have hd1 : dec [43, 45, 95] 1 = (45, 1) := by decide +kernel
      have hd2 : dec [43, 45, 95] 2 = (95, 1) := by decide +kernel
      refine fn1E (T := Tryd.tt) Tryd.func90 rfl tt_all follows_all ?_ ?_ fun C hC hE => ?_
      · kernel_rfl
      · exact Nat.le_of_ble_eq_true (by kernel_rfl)
      conv => whnf
      repeat' (first | (refine brd_t (by first | assumption | omega) ?_; conv => whnf) | (refine brd_f (by first | assumption | omega) ?_; conv => whnf) | (refine ask (by first | assumption | omega) ?_; conv => whnf) | (refine fit64 (by omega) ?_; conv => whnf) | (refine fit (by simp only [kmin, kmax]; omega) ?_; conv => whnf) | (refine br_t (by assumption) ?_; conv => whnf) | (refine br_f (by assumption) ?_; conv => whnf) | (refine get_of (by assumption) ?_; conv => whnf) | (refine get_map (by assumption) ?_; conv => whnf) | (refine draw_lex hE ?_ ?_; decide +kernel; conv => whnf) | (refine draw_any hE [⟨0, [(0, none), (1, none), (2, none), (3, none), (4, none), (5, none), (6, none)], none, [], [[]]⟩] ?_ ?_; decide +kernel; conv => whnf) | (refine draw_any hE [⟨0, [(0, none), (1, none), (2, none), (3, none), (4, none), (5, none), (6, none), (7, none), (8, none)], none, [], [[]]⟩] ?_ ?_; decide +kernel; conv => whnf) | (refine draw_any hE [⟨0, [(0, none), (1, none), (2, none), (3, none), (4, none), (5, none), (6, none), (7, none), (8, none), (9, none), (10, none)], none, [], [[]]⟩] ?_ ?_; decide +kernel; conv => whnf) | (refine brd (fun h => ?_) (fun h => ?_) <;> conv => whnf) | (refine br (fun h => ?_) (fun h => ?_) <;> conv => whnf) | (refine ret_now hE ?_; conv => whnf) | (intro hlen; conv => whnf) | (refine seg_here ?_; conv => whnf) | (refine both ?_ ?_ <;> conv => whnf))
      refine loopE (fun pos : Nat => ⟨187, [(175, .it 0)], [some (.iter [43, 45, 95] pos)]⟩) (fun pos => pos ≤ 3) (fun pos => 3 - pos) 0 hE ?_ ?_ (Nat.zero_le _) ?_
      · kernel_rfl
      · exact at_keep [175] rfl
      intro pos hpos
      match pos, hpos with
      | 0, _ =>
        conv => whnf
        repeat' (first | (refine brd_t (by first | assumption | omega) ?_; conv => whnf) | (refine brd_f (by first | assumption | omega) ?_; conv => whnf) | (refine ask (by first | assumption | omega) ?_; conv => whnf) | (refine fit64 (by omega) ?_; conv => whnf) | (refine fit (by simp only [kmin, kmax]; omega) ?_; conv => whnf) | (refine br_t (by assumption) ?_; conv => whnf) | (refine br_f (by assumption) ?_; conv => whnf) | (refine get_of (by assumption) ?_; conv => whnf) | (refine get_map (by assumption) ?_; conv => whnf) | (rw [hd0]; conv => whnf) | (refine draw_lex hE ?_ ?_; decide +kernel; conv => whnf) | (refine draw_any hE [⟨0, [(0, none), (1, none), (2, none), (3, none), (4, none), (5, none), (6, none)], none, [], [[]]⟩] ?_ ?_; decide +kernel; conv => whnf) | (refine draw_any hE [⟨0, [(0, none), (1, none), (2, none), (3, none), (4, none), (5, none), (6, none), (7, none), (8, none)], none, [], [[]]⟩] ?_ ?_; decide +kernel; conv => whnf) | (refine draw_any hE [⟨0, [(0, none), (1, none), (2, none), (3, none), (4, none), (5, none), (6, none), (7, none), (8, none), (9, none), (10, none)], none, [], [[]]⟩] ?_ ?_; decide +kernel; conv => whnf) | (refine brd (fun h => ?_) (fun h => ?_) <;> conv => whnf) | (refine br (fun h => ?_) (fun h => ?_) <;> conv => whnf) | (refine ret_now hE ?_; conv => whnf) | (intro hlen; conv => whnf) | (refine seg_here ?_; conv => whnf) | (refine both ?_ ?_ <;> conv => whnf))
        exact next_keep [175] 1 (by omega) (by omega) rfl
      | 1, _ =>
        conv => whnf
        repeat' (first | (refine brd_t (by first | assumption | omega) ?_; conv => whnf) | (refine brd_f (by first | assumption | omega) ?_; conv => whnf) | (refine ask (by first | assumption | omega) ?_; conv => whnf) | (refine fit64 (by omega) ?_; conv => whnf) | (refine fit (by simp only [kmin, kmax]; omega) ?_; conv => whnf) | (refine br_t (by assumption) ?_; conv => whnf) | (refine br_f (by assumption) ?_; conv => whnf) | (refine get_of (by assumption) ?_; conv => whnf) | (refine get_map (by assumption) ?_; conv => whnf) | (rw [hd1]; conv => whnf) | (refine draw_lex hE ?_ ?_; decide +kernel; conv => whnf) | (refine draw_any hE [⟨0, [(0, none), (1, none), (2, none), (3, none), (4, none), (5, none), (6, none)], none, [], [[]]⟩] ?_ ?_; decide +kernel; conv => whnf) | (refine draw_any hE [⟨0, [(0, none), (1, none), (2, none), (3, none), (4, none), (5, none), (6, none), (7, none), (8, none)], none, [], [[]]⟩] ?_ ?_; decide +kernel; conv => whnf) | (refine draw_any hE [⟨0, [(0, none), (1, none), (2, none), (3, none), (4, none), (5, none), (6, none), (7, none), (8, none), (9, none), (10, none)], none, [], [[]]⟩] ?_ ?_; decide +kernel; conv => whnf) | (refine brd (fun h => ?_) (fun h => ?_) <;> conv => whnf) | (refine br (fun h => ?_) (fun h => ?_) <;> conv => whnf) | (refine ret_now hE ?_; conv => whnf) | (intro hlen; conv => whnf) | (refine seg_here ?_; conv => whnf) | (refine both ?_ ?_ <;> conv => whnf))
        exact next_keep [175] 2 (by omega) (by omega) rfl
      | 2, _ =>
        conv => whnf
        repeat' (first | (refine brd_t (by first | assumption | omega) ?_; conv => whnf) | (refine brd_f (by first | assumption | omega) ?_; conv => whnf) | (refine ask (by first | assumption | omega) ?_; conv => whnf) | (refine fit64 (by omega) ?_; conv => whnf) | (refine fit (by simp only [kmin, kmax]; omega) ?_; conv => whnf) | (refine br_t (by assumption) ?_; conv => whnf) | (refine br_f (by assumption) ?_; conv => whnf) | (refine get_of (by assumption) ?_; conv => whnf) | (refine get_map (by assumption) ?_; conv => whnf) | (rw [hd2]; conv => whnf) | (refine draw_lex hE ?_ ?_; decide +kernel; conv => whnf) | (refine draw_any hE [⟨0, [(0, none), (1, none), (2, none), (3, none), (4, none), (5, none), (6, none)], none, [], [[]]⟩] ?_ ?_; decide +kernel; conv => whnf) | (refine draw_any hE [⟨0, [(0, none), (1, none), (2, none), (3, none), (4, none), (5, none), (6, none), (7, none), (8, none)], none, [], [[]]⟩] ?_ ?_; decide +kernel; conv => whnf) | (refine draw_any hE [⟨0, [(0, none), (1, none), (2, none), (3, none), (4, none), (5, none), (6, none), (7, none), (8, none), (9, none), (10, none)], none, [], [[]]⟩] ?_ ?_; decide +kernel; conv => whnf) | (refine brd (fun h => ?_) (fun h => ?_) <;> conv => whnf) | (refine br (fun h => ?_) (fun h => ?_) <;> conv => whnf) | (refine ret_now hE ?_; conv => whnf) | (intro hlen; conv => whnf) | (refine seg_here ?_; conv => whnf) | (refine both ?_ ?_ <;> conv => whnf))
        exact next_keep [175] 3 (by omega) (by omega) rfl
      | 3, _ =>
        conv => whnf
        repeat' (first | (refine brd_t (by first | assumption | omega) ?_; conv => whnf) | (refine brd_f (by first | assumption | omega) ?_; conv => whnf) | (refine ask (by first | assumption | omega) ?_; conv => whnf) | (refine fit64 (by omega) ?_; conv => whnf) | (refine fit (by simp only [kmin, kmax]; omega) ?_; conv => whnf) | (refine br_t (by assumption) ?_; conv => whnf) | (refine br_f (by assumption) ?_; conv => whnf) | (refine get_of (by assumption) ?_; conv => whnf) | (refine get_map (by assumption) ?_; conv => whnf) | (refine draw_lex hE ?_ ?_; decide +kernel; conv => whnf) | (refine draw_any hE [⟨0, [(0, none), (1, none), (2, none), (3, none), (4, none), (5, none), (6, none)], none, [], [[]]⟩] ?_ ?_; decide +kernel; conv => whnf) | (refine draw_any hE [⟨0, [(0, none), (1, none), (2, none), (3, none), (4, none), (5, none), (6, none), (7, none), (8, none)], none, [], [[]]⟩] ?_ ?_; decide +kernel; conv => whnf) | (refine draw_any hE [⟨0, [(0, none), (1, none), (2, none), (3, none), (4, none), (5, none), (6, none), (7, none), (8, none), (9, none), (10, none)], none, [], [[]]⟩] ?_ ?_; decide +kernel; conv => whnf) | (refine brd (fun h => ?_) (fun h => ?_) <;> conv => whnf) | (refine br (fun h => ?_) (fun h => ?_) <;> conv => whnf) | (refine ret_now hE ?_; conv => whnf) | (intro hlen; conv => whnf) | (refine seg_here ?_; conv => whnf) | (refine both ?_ ?_ <;> conv => whnf))
        exact ⟨rfl, rfl⟩
    · have hv := valid_rune n
      by_cases h3 : letB n = true
      · rw [h3] at hv
        refine fn1E (T := Tryd.tt) Tryd.func90 rfl tt_all follows_all ?_ ?_ fun C hC hE => ?_
        · kernel_rfl
        · exact Nat.le_of_ble_eq_true (by kernel_rfl)
        conv => whnf
        repeat' (first | (refine brd_t (by first | assumption | omega) ?_; conv => whnf) | (refine brd_f (by first | assumption | omega) ?_; conv => whnf) | (refine ask (by first | assumption | omega) ?_; conv => whnf) | (refine fit64 (by omega) ?_; conv => whnf) | (refine fit (by simp only [kmin, kmax]; omega) ?_; conv => whnf) | (refine br_t (by assumption) ?_; conv => whnf) | (refine br_f (by assumption) ?_; conv => whnf) | (refine get_of (by assumption) ?_; conv => whnf) | (refine get_map (by assumption) ?_; conv => whnf) | (refine call_eq (hv) hC hasBody_82 ?_ ?_ ?_; kernel_rfl; kernel_rfl; conv => whnf) | (refine callq_eq (hv) hC hasBody_82 ?_ ?_ ?_; kernel_rfl; kernel_rfl; conv => whnf) | (refine conv_rune (by rw [hC]; kernel_rfl) (by rw [hC]; kernel_rfl) rfl ?_) | (refine draw_lex hE ?_ ?_; decide +kernel; conv => whnf) | (refine draw_any hE [⟨0, [(0, none), (1, none), (2, none), (3, none), (4, none), (5, none), (6, none)], none, [], [[]]⟩] ?_ ?_; decide +kernel; conv => whnf) | (refine draw_any hE [⟨0, [(0, none), (1, none), (2, none), (3, none), (4, none), (5, none), (6, none), (7, none), (8, none)], none, [], [[]]⟩] ?_ ?_; decide +kernel; conv => whnf) | (refine draw_any hE [⟨0, [(0, none), (1, none), (2, none), (3, none), (4, none), (5, none), (6, none), (7, none), (8, none), (9, none), (10, none)], none, [], [[]]⟩] ?_ ?_; decide +kernel; conv => whnf) | (refine brd (fun h => ?_) (fun h => ?_) <;> conv => whnf) | (refine br (fun h => ?_) (fun h => ?_) <;> conv => whnf) | (refine ret_now hE ?_; conv => whnf) | (intro hlen; conv => whnf) | (refine seg_here ?_; conv => whnf) | (refine both ?_ ?_ <;> conv => whnf))
        obtain ⟨p, b, hp, hp1, hp3, hb⟩ := enc_last n (by omega) h3
        generalize (Utf8.encode (n : Int)).data.toList = es at *
        subst hp
        conv => whnf
        repeat' (first | (refine brd_t (by first | assumption | omega) ?_; conv => whnf) | (refine brd_f (by first | assumption | omega) ?_; conv => whnf) | (refine ask (by first | assumption | omega) ?_; conv => whnf) | (refine fit64 (by omega) ?_; conv => whnf) | (refine fit (by simp only [kmin, kmax]; omega) ?_; conv => whnf) | (refine br_t (by assumption) ?_; conv => whnf) | (refine br_f (by assumption) ?_; conv => whnf) | (refine get_of (by assumption) ?_; conv => whnf) | (refine get_map (by assumption) ?_; conv => whnf) | (refine draw_lex hE ?_ ?_; decide +kernel; conv => whnf) | (refine draw_any hE [⟨0, [(0, none), (1, none), (2, none), (3, none), (4, none), (5, none), (6, none)], none, [], [[]]⟩] ?_ ?_; decide +kernel; conv => whnf) | (refine draw_any hE [⟨0, [(0, none), (1, none), (2, none), (3, none), (4, none), (5, none), (6, none), (7, none), (8, none)], none, [], [[]]⟩] ?_ ?_; decide +kernel; conv => whnf) | (refine draw_any hE [⟨0, [(0, none), (1, none), (2, none), (3, none), (4, none), (5, none), (6, none), (7, none), (8, none), (9, none), (10, none)], none, [], [[]]⟩] ?_ ?_; decide +kernel; conv => whnf) | (refine brd (fun h => ?_) (fun h => ?_) <;> conv => whnf) | (refine br (fun h => ?_) (fun h => ?_) <;> conv => whnf) | (refine ret_now hE ?_; conv => whnf) | (intro hlen; conv => whnf) | (refine seg_here ?_; conv => whnf) | (refine both ?_ ?_ <;> conv => whnf))
        have hb2 : ∃ j : Fin 128, b = UInt8.ofNat (128 + j.val) := ⟨⟨b.toNat - 128, by have := b.toNat_lt; omega⟩, by
          apply UInt8.toNat_inj.1
          have := b.toNat_lt
          rw [UInt8.toNat_ofNat']
          simp only
          omega⟩
        obtain ⟨j, rfl⟩ := hb2
        have hno := idx_none j
        have hbv : (UInt8.ofNat (128 + j.val)).toNat = 128 + j.val := by rw [UInt8.toNat_ofNat']; have := j.isLt; omega
        generalize UInt8.ofNat (128 + j.val) = b at *
        have h43 : (43 : UInt8).toNat = 43 := rfl
        have h45 : (45 : UInt8).toNat = 45 := rfl
        have h95 : (95 : UInt8).toNat = 95 := rfl
        refine loopE (fun u : Nat => ⟨187, [(0, .str [43, 45, 95]), (7, .str (p ++ [b])), (8, .int .i64 (((p ++ [b]).length : Int) - 1)), (9, .int .i64 (((p ++ [b]).length : Int) - 1)), (10, .int .i64 0)], []⟩) (fun u => u = 0) (fun _ => 0) 0 hE ?_ ?_ rfl ?_
        · kernel_rfl
        · exact at_keep [0, 7, 8, 9, 10] rfl
        intro u hu
        match p, hp1, hp3 with
        | [x], _, _ =>
          have hl3 : ([43, 45, 95] : List UInt8).length = 3 := rfl
          have hl2 : ([x] ++ [b]).length = 2 := rfl
          have hix := idx_byte [95] b
          rw [hno.2.1] at hix
          conv => whnf
          repeat' (first | (refine brd_t (by first | assumption | omega) ?_; conv => whnf) | (refine brd_f (by first | assumption | omega) ?_; conv => whnf) | (refine ask (by first | assumption | omega) ?_; conv => whnf) | (refine fit64 (by omega) ?_; conv => whnf) | (refine fit (by simp only [kmin, kmax]; omega) ?_; conv => whnf) | (refine br_t (by assumption) ?_; conv => whnf) | (refine br_f (by assumption) ?_; conv => whnf) | (refine get_of (by assumption) ?_; conv => whnf) | (refine get_map (by assumption) ?_; conv => whnf) | (refine call_eq (hix) hC hasBody_33 ?_ ?_ ?_; kernel_rfl; kernel_rfl; conv => whnf) | (refine callq_eq (hix) hC hasBody_33 ?_ ?_ ?_; kernel_rfl; kernel_rfl; conv => whnf) | (refine draw_lex hE ?_ ?_; decide +kernel; conv => whnf) | (refine draw_any hE [⟨0, [(0, none), (1, none), (2, none), (3, none), (4, none), (5, none), (6, none)], none, [], [[]]⟩] ?_ ?_; decide +kernel; conv => whnf) | (refine draw_any hE [⟨0, [(0, none), (1, none), (2, none), (3, none), (4, none), (5, none), (6, none), (7, none), (8, none)], none, [], [[]]⟩] ?_ ?_; decide +kernel; conv => whnf) | (refine draw_any hE [⟨0, [(0, none), (1, none), (2, none), (3, none), (4, none), (5, none), (6, none), (7, none), (8, none), (9, none), (10, none)], none, [], [[]]⟩] ?_ ?_; decide +kernel; conv => whnf) | (refine brd (fun h => ?_) (fun h => ?_) <;> conv => whnf) | (refine br (fun h => ?_) (fun h => ?_) <;> conv => whnf) | (refine ret_now hE ?_; conv => whnf) | (intro hlen; conv => whnf) | (refine seg_here ?_; conv => whnf) | (refine both ?_ ?_ <;> conv => whnf))
          all_goals exact ⟨rfl, rfl⟩
        | [x, y], _, _ =>
          have hl3 : ([43, 45, 95] : List UInt8).length = 3 := rfl
          have hl2 : ([x, y] ++ [b]).length = 3 := rfl
          have hix := idx_byte [] b
          rw [hno.2.2] at hix
          conv => whnf
          repeat' (first | (refine brd_t (by first | assumption | omega) ?_; conv => whnf) | (refine brd_f (by first | assumption | omega) ?_; conv => whnf) | (refine ask (by first | assumption | omega) ?_; conv => whnf) | (refine fit64 (by omega) ?_; conv => whnf) | (refine fit (by simp only [kmin, kmax]; omega) ?_; conv => whnf) | (refine br_t (by assumption) ?_; conv => whnf) | (refine br_f (by assumption) ?_; conv => whnf) | (refine get_of (by assumption) ?_; conv => whnf) | (refine get_map (by assumption) ?_; conv => whnf) | (refine call_eq (hix) hC hasBody_33 ?_ ?_ ?_; kernel_rfl; kernel_rfl; conv => whnf) | (refine callq_eq (hix) hC hasBody_33 ?_ ?_ ?_; kernel_rfl; kernel_rfl; conv => whnf) | (refine draw_lex hE ?_ ?_; decide +kernel; conv => whnf) | (refine draw_any hE [⟨0, [(0, none), (1, none), (2, none), (3, none), (4, none), (5, none), (6, none)], none, [], [[]]⟩] ?_ ?_; decide +kernel; conv => whnf) | (refine draw_any hE [⟨0, [(0, none), (1, none), (2, none), (3, none), (4, none), (5, none), (6, none), (7, none), (8, none)], none, [], [[]]⟩] ?_ ?_; decide +kernel; conv => whnf) | (refine draw_any hE [⟨0, [(0, none), (1, none), (2, none), (3, none), (4, none), (5, none), (6, none), (7, none), (8, none), (9, none), (10, none)], none, [], [[]]⟩] ?_ ?_; decide +kernel; conv => whnf) | (refine brd (fun h => ?_) (fun h => ?_) <;> conv => whnf) | (refine br (fun h => ?_) (fun h => ?_) <;> conv => whnf) | (refine ret_now hE ?_; conv => whnf) | (intro hlen; conv => whnf) | (refine seg_here ?_; conv => whnf) | (refine both ?_ ?_ <;> conv => whnf))
          all_goals exact ⟨rfl, rfl⟩
        | [x, y, z], _, _ =>
          have hl3 : ([43, 45, 95] : List UInt8).length = 3 := rfl
          have hl2 : ([x, y, z] ++ [b]).length = 4 := rfl
          conv => whnf
          repeat' (first | (refine brd_t (by first | assumption | omega) ?_; conv => whnf) | (refine brd_f (by first | assumption | omega) ?_; conv => whnf) | (refine ask (by first | assumption | omega) ?_; conv => whnf) | (refine fit64 (by omega) ?_; conv => whnf) | (refine fit (by simp only [kmin, kmax]; omega) ?_; conv => whnf) | (refine br_t (by assumption) ?_; conv => whnf) | (refine br_f (by assumption) ?_; conv => whnf) | (refine get_of (by assumption) ?_; conv => whnf) | (refine get_map (by assumption) ?_; conv => whnf) | (refine draw_lex hE ?_ ?_; decide +kernel; conv => whnf) | (refine draw_any hE [⟨0, [(0, none), (1, none), (2, none), (3, none), (4, none), (5, none), (6, none)], none, [], [[]]⟩] ?_ ?_; decide +kernel; conv => whnf) | (refine draw_any hE [⟨0, [(0, none), (1, none), (2, none), (3, none), (4, none), (5, none), (6, none), (7, none), (8, none)], none, [], [[]]⟩] ?_ ?_; decide +kernel; conv => whnf) | (refine draw_any hE [⟨0, [(0, none), (1, none), (2, none), (3, none), (4, none), (5, none), (6, none), (7, none), (8, none), (9, none), (10, none)], none, [], [[]]⟩] ?_ ?_; decide +kernel; conv => whnf) | (refine brd (fun h => ?_) (fun h => ?_) <;> conv => whnf) | (refine br (fun h => ?_) (fun h => ?_) <;> conv => whnf) | (refine ret_now hE ?_; conv => whnf) | (intro hlen; conv => whnf) | (refine seg_here ?_; conv => whnf) | (refine both ?_ ?_ <;> conv => whnf))
          all_goals exact ⟨rfl, rfl⟩
        | _ :: _ :: _ :: _ :: _, _, hq => exact absurd hq (by simp)
      · rw [Bool.not_eq_true] at h3
        rw [h3] at hv
        refine fn1E (T := Tryd.tt) Tryd.func90 rfl tt_all follows_all ?_ ?_ fun C hC hE => ?_
        · kernel_rfl
        · exact Nat.le_of_ble_eq_true (by kernel_rfl)
        conv => whnf
        repeat' (first | (refine brd_t (by first | assumption | omega) ?_; conv => whnf) | (refine brd_f (by first | assumption | omega) ?_; conv => whnf) | (refine ask (by first | assumption | omega) ?_; conv => whnf) | (refine fit64 (by omega) ?_; conv => whnf) | (refine fit (by simp only [kmin, kmax]; omega) ?_; conv => whnf) | (refine br_t (by assumption) ?_; conv => whnf) | (refine br_f (by assumption) ?_; conv => whnf) | (refine get_of (by assumption) ?_; conv => whnf) | (refine get_map (by assumption) ?_; conv => whnf) | (refine call_eq (hv) hC hasBody_82 ?_ ?_ ?_; kernel_rfl; kernel_rfl; conv => whnf) | (refine callq_eq (hv) hC hasBody_82 ?_ ?_ ?_; kernel_rfl; kernel_rfl; conv => whnf) | (refine draw_lex hE ?_ ?_; decide +kernel; conv => whnf) | (refine draw_any hE [⟨0, [(0, none), (1, none), (2, none), (3, none), (4, none), (5, none), (6, none)], none, [], [[]]⟩] ?_ ?_; decide +kernel; conv => whnf) | (refine draw_any hE [⟨0, [(0, none), (1, none), (2, none), (3, none), (4, none), (5, none), (6, none), (7, none), (8, none)], none, [], [[]]⟩] ?_ ?_; decide +kernel; conv => whnf) | (refine draw_any hE [⟨0, [(0, none), (1, none), (2, none), (3, none), (4, none), (5, none), (6, none), (7, none), (8, none), (9, none), (10, none)], none, [], [[]]⟩] ?_ ?_; decide +kernel; conv => whnf) | (refine brd (fun h => ?_) (fun h => ?_) <;> conv => whnf) | (refine br (fun h => ?_) (fun h => ?_) <;> conv => whnf) | (refine ret_now hE ?_; conv => whnf) | (intro hlen; conv => whnf) | (refine seg_here ?_; conv => whnf) | (refine both ?_ ?_ <;> conv => whnf))
        all_goals exact ⟨rfl, rfl⟩
end Go.Proofs.YtaeeceabnkgnnaaDoor

/-! strings.ContainsAny at the signs, ref.numbered, ref.named, ref.letter: walked. No conditions. -/
namespace Go.Proofs.YtaeeceabnkgnnaaDoor
open Go.RowKit

def inC (n : Nat) : Bool := decide (n = 43) || decide (n = 45) || decide (n = 95)
theorem irC_in (n : Nat) : (0 ≤ irC n) ↔ inC n = true := by
  unfold irC inC
  by_cases h1 : n = 43
  · simp [h1]
  · by_cases h2 : n = 45
    · simp [h2]
    · by_cases h3 : n = 95
      · simp [h3]
      · simp [h1, h2, h3]
theorem runes_in (n : Nat) : ∀ s : List UInt8, s.length ≤ n → ∀ r ∈ runesL s, r < 128 → ∃ c ∈ s, c.toNat = r := by
  induction n with
  | zero => intro s hs; rw [List.length_eq_zero_iff.1 (Nat.le_zero.1 hs), runesL_nil]; intro r hr; cases hr
  | succ n ih =>
    intro s hs r hr h128
    match s with
    | [] => rw [runesL_nil] at hr; cases hr
    | c :: t =>
      rw [runesL_step (by simp)] at hr
      rcases List.mem_cons.1 hr with rfl | hr
      · by_cases hc : c.toNat < 128
        · have : decL (c :: t) = (c.toNat, 1) := decF_1 hc
          exact ⟨c, by simp, by rw [this]⟩
        · have h1 : 128 ≤ (decL (c :: t)).1 := decF_ge hc
          omega
      · have hd := (decL_le (c :: t)).2.1
        obtain ⟨d, hdm, hde⟩ := ih _ (by rw [List.length_drop]; omega) r hr h128
        exact ⟨d, List.mem_of_mem_drop hdm, hde⟩
theorem runes_head (c : UInt8) (t : List UInt8) (h : c.toNat < 128) : c.toNat ∈ runesL (c :: t) := by
  rw [runesL_step (by simp)]
  have : decL (c :: t) = (c.toNat, 1) := decF_1 h
  rw [this]
  exact List.mem_cons_self
theorem index_any (s : List UInt8) (hl : s.length ≤ 8) : Fn1 Tryd.prog 99 [.str s, .str [43, 45, 95]] (fun r => r = .int .i64 (sIdx inC 0 s)) := by
  have hl3 : ([43, 45, 95] : List UInt8).length = 3 := rfl
  have hn3 : ¬ ([43, 45, 95] : List UInt8) = [] := by simp
  have hsu : Fn1 Tryd.prog 111 [.int .i64 s.length] (fun r => r = .bool false) := by
    refine fn1E (T := Tryd.tt) Tryd.func111 rfl tt_all follows_all ?_ ?_ fun C hC hE => ?_
    · kernel_rfl
    · exact Nat.le_of_ble_eq_true (by kernel_rfl)
    conv => whnf
    repeat' (first | (refine brd_t (by first | assumption | omega) ?_; conv => whnf) | (refine brd_f (by first | assumption | omega) ?_; conv => whnf) | (refine ask (by first | assumption | omega) ?_; conv => whnf) | (refine fit64 (by omega) ?_; conv => whnf) | (refine fit (by simp only [kmin, kmax]; omega) ?_; conv => whnf) | (refine br_t (by assumption) ?_; conv => whnf) | (refine br_f (by assumption) ?_; conv => whnf) | (refine get_of (by assumption) ?_; conv => whnf) | (refine get_map (by assumption) ?_; conv => whnf) | (refine draw_lex hE ?_ ?_; decide +kernel; conv => whnf) | (refine brd (fun h => ?_) (fun h => ?_) <;> conv => whnf) | (refine br (fun h => ?_) (fun h => ?_) <;> conv => whnf) | (refine ret_now hE ?_; conv => whnf) | (intro hlen; conv => whnf) | (refine seg_here ?_; conv => whnf) | (refine both ?_ ?_ <;> conv => whnf))
    all_goals exact ⟨rfl, rfl⟩
  refine fn1E (T := Tryd.tt) Tryd.func99 rfl tt_all follows_all ?_ ?_ fun C hC hE => ?_
  · kernel_rfl
  · exact Nat.le_of_ble_eq_true (by kernel_rfl)
  conv => whnf
  repeat' (first | (refine brd_t (by first | assumption | omega) ?_; conv => whnf) | (refine brd_f (by first | assumption | omega) ?_; conv => whnf) | (refine ask (by first | assumption | omega) ?_; conv => whnf) | (refine fit64 (by omega) ?_; conv => whnf) | (refine fit (by simp only [kmin, kmax]; omega) ?_; conv => whnf) | (refine br_t (by assumption) ?_; conv => whnf) | (refine br_f (by assumption) ?_; conv => whnf) | (refine get_of (by assumption) ?_; conv => whnf) | (refine get_map (by assumption) ?_; conv => whnf) | (refine call_eq (hsu) hC hasBody_111 ?_ ?_ ?_; kernel_rfl; kernel_rfl; conv => whnf) | (refine callq_eq (hsu) hC hasBody_111 ?_ ?_ ?_; kernel_rfl; kernel_rfl; conv => whnf) | (refine draw_lex hE ?_ ?_; decide +kernel; conv => whnf) | (refine brd (fun h => ?_) (fun h => ?_) <;> conv => whnf) | (refine br (fun h => ?_) (fun h => ?_) <;> conv => whnf) | (refine ret_now hE ?_; conv => whnf) | (intro hlen; conv => whnf) | (refine seg_here ?_; conv => whnf) | (refine both ?_ ?_ <;> conv => whnf))
  refine loopE (fun pos : Nat => ⟨55, [(1, .str [43, 45, 95]), (45, .it 0)], [some (.iter s pos)]⟩) (fun pos => sIdx inC pos (s.drop pos) = sIdx inC 0 s) (fun pos => s.length + 4 - pos) 0 hE ?_ ?_ rfl ?_
  · kernel_rfl
  · exact at_keep [1, 45] rfl
  intro pos hpos
  by_cases hlt : pos < s.length
  · have hat := sIdx_at inC hlt
    have hd := (decL_le (s.drop pos)).2.1
    rw [← dec_eq] at hd
    have hd2 := (decL_le (s.drop pos)).2.2
    rw [← dec_eq] at hd2
    have hpn := index_rune (dec s pos).1
    have hii := irC_in (dec s pos).1
    conv => whnf
    repeat' (first | (refine brd_t (by first | assumption | omega) ?_; conv => whnf) | (refine brd_f (by first | assumption | omega) ?_; conv => whnf) | (refine ask (by first | assumption | omega) ?_; conv => whnf) | (refine fit64 (by omega) ?_; conv => whnf) | (refine fit (by simp only [kmin, kmax]; omega) ?_; conv => whnf) | (refine br_t (by assumption) ?_; conv => whnf) | (refine br_f (by assumption) ?_; conv => whnf) | (refine get_of (by assumption) ?_; conv => whnf) | (refine get_map (by assumption) ?_; conv => whnf) | (refine call_eq (hpn) hC hasBody_90 ?_ ?_ ?_; kernel_rfl; kernel_rfl; conv => whnf) | (refine callq_eq (hpn) hC hasBody_90 ?_ ?_ ?_; kernel_rfl; kernel_rfl; conv => whnf) | (refine draw_lex hE ?_ ?_; decide +kernel; conv => whnf) | (refine brd (fun h => ?_) (fun h => ?_) <;> conv => whnf) | (refine br (fun h => ?_) (fun h => ?_) <;> conv => whnf) | (refine ret_now hE ?_; conv => whnf) | (intro hlen; conv => whnf) | (refine seg_here ?_; conv => whnf) | (refine both ?_ ?_ <;> conv => whnf))
    · exact ⟨rfl, by rw [← hpos, hat, if_pos (hii.1 (by assumption))]⟩
    · refine next_keep [1, 45] (pos + (dec s pos).2) ?_ (by omega) rfl
      rw [← hpos, hat, if_neg (fun e => absurd (hii.2 e) (by assumption))]
  · have he : sIdx inC 0 s = -1 := by rw [← hpos, List.drop_of_length_le (by omega), sIdx_nil]
    conv => whnf
    repeat' (first | (refine brd_t (by first | assumption | omega) ?_; conv => whnf) | (refine brd_f (by first | assumption | omega) ?_; conv => whnf) | (refine ask (by first | assumption | omega) ?_; conv => whnf) | (refine fit64 (by omega) ?_; conv => whnf) | (refine fit (by simp only [kmin, kmax]; omega) ?_; conv => whnf) | (refine br_t (by assumption) ?_; conv => whnf) | (refine br_f (by assumption) ?_; conv => whnf) | (refine get_of (by assumption) ?_; conv => whnf) | (refine get_map (by assumption) ?_; conv => whnf) | (refine draw_lex hE ?_ ?_; decide +kernel; conv => whnf) | (refine brd (fun h => ?_) (fun h => ?_) <;> conv => whnf) | (refine br (fun h => ?_) (fun h => ?_) <;> conv => whnf) | (refine ret_now hE ?_; conv => whnf) | (intro hlen; conv => whnf) | (refine seg_here ?_; conv => whnf) | (refine both ?_ ?_ <;> conv => whnf))
    exact ⟨rfl, by rw [he]⟩
theorem contains_any (s : List UInt8) (hl : s.length ≤ 8) : Fn1 Tryd.prog 80 [.str s, .str [43, 45, 95]] (fun r => r = .bool ((runesL s).any inC)) := by
  have ha := sIdx_any inC _ 0 s (Nat.le_refl _)
  have hix := index_any s hl
  refine fn1E (T := Tryd.tt) Tryd.func80 rfl tt_all follows_all ?_ ?_ fun C hC hE => ?_
  · kernel_rfl
  · exact Nat.le_of_ble_eq_true (by kernel_rfl)
  conv => whnf
  repeat' (first | (refine brd_t (by first | assumption | omega) ?_; conv => whnf) | (refine brd_f (by first | assumption | omega) ?_; conv => whnf) | (refine ask (by first | assumption | omega) ?_; conv => whnf) | (refine fit64 (by omega) ?_; conv => whnf) | (refine fit (by simp only [kmin, kmax]; omega) ?_; conv => whnf) | (refine br_t (by assumption) ?_; conv => whnf) | (refine br_f (by assumption) ?_; conv => whnf) | (refine get_of (by assumption) ?_; conv => whnf) | (refine get_map (by assumption) ?_; conv => whnf) | (refine call_eq (hix) hC hasBody_99 ?_ ?_ ?_; kernel_rfl; kernel_rfl; conv => whnf) | (refine callq_eq (hix) hC hasBody_99 ?_ ?_ ?_; kernel_rfl; kernel_rfl; conv => whnf) | (refine draw_lex hE ?_ ?_; decide +kernel; conv => whnf) | (refine brd (fun h => ?_) (fun h => ?_) <;> conv => whnf) | (refine br (fun h => ?_) (fun h => ?_) <;> conv => whnf) | (refine ret_now hE ?_; conv => whnf) | (intro hlen; conv => whnf) | (refine seg_here ?_; conv => whnf) | (refine both ?_ ?_ <;> conv => whnf))
  all_goals exact ⟨rfl, by rw [← ha]; congr 1; first | exact (decide_eq_true (by assumption)).symm | exact (decide_eq_false (by assumption)).symm⟩
theorem pD_none {c : UInt8} (h : c = 43 ∨ c = 45 ∨ c = 95) : pD c = none := by
  rcases h with rfl | rfl | rfl <;> decide
theorem pU_none (B : Nat) : ∀ (s : List UInt8) (n : Nat) (c : UInt8), c ∈ s → pD c = none → pU B n s = none
  | [], _, _, h, _ => by cases h
  | x :: r, n, c, h, hc => by
    rw [pU]
    rcases List.mem_cons.1 h with rfl | h
    · rw [hc]
    · split
      · split
        · exact pU_none B r _ c h hc
        · rfl
      · rfl
theorem any_in {B : Nat} {s : List UInt8} (h : (runesL s).any inC = true) : pU B 0 s = none := by
  obtain ⟨r, hr, hi⟩ := List.any_eq_true.1 h
  have h3 : r = 43 ∨ r = 45 ∨ r = 95 := by unfold inC at hi; simpa [or_assoc] using hi
  obtain ⟨c, hc, hcr⟩ := runes_in _ s (Nat.le_refl _) r hr (by omega)
  refine pU_none B s 0 c hc (pD_none ?_)
  rcases h3 with h | h | h
  · exact .inl (UInt8.toNat_inj.1 (by rw [hcr, h]; rfl))
  · exact .inr (.inl (UInt8.toNat_inj.1 (by rw [hcr, h]; rfl)))
  · exact .inr (.inr (UInt8.toNat_inj.1 (by rw [hcr, h]; rfl)))
theorem any_out {c : UInt8} {s : List UInt8} (h : (runesL (c :: s)).any inC = false) : c ≠ 43 ∧ c ≠ 45 := by
  constructor
  · rintro rfl
    have := List.any_eq_false.1 h 43 (runes_head 43 s (by decide))
    simp [inC] at this
  · rintro rfl
    have := List.any_eq_false.1 h 45 (runes_head 45 s (by decide))
    simp [inC] at this
/-- What a number's letters mean: the letter's number, or none. -/
def fixR (m : Nat) : Nat := if m = 0 ∨ 1114111 < m ∨ letB m = false then 65533 else m
def numR (B lim : Nat) (s : List UInt8) : Option Nat := if s = [] ∨ lim < s.length then none else (pU B 0 s).map fixR
def rV : Option Nat → V
  | some n => .tup [.int .i32 n, .bool true]
  | none => .tup [.int .i32 0, .bool false]

set_option maxHeartbeats 4000000 in
theorem numbered_10 (s : List UInt8) : Fn1G Tryd.prog GE 60 [.str s, .int .i64 10, .int .i64 7] (fun r => r = rV (numR 10 7 s)) := by
  by_cases hs : s = []
  · subst hs
    refine fn1GE (T := Tryd.tt) Tryd.func60 rfl tt_all follows_all ?_ ?_ fun C hC hW hG hE => ?_
    · kernel_rfl
    · exact Nat.le_of_ble_eq_true (by kernel_rfl)
    conv => whnf
    repeat' (first | (refine brd_t (by first | assumption | omega) ?_; conv => whnf) | (refine brd_f (by first | assumption | omega) ?_; conv => whnf) | (refine ask (by first | assumption | omega) ?_; conv => whnf) | (refine fit64 (by omega) ?_; conv => whnf) | (refine fit (by simp only [kmin, kmax]; omega) ?_; conv => whnf) | (refine br_t (by assumption) ?_; conv => whnf) | (refine br_f (by assumption) ?_; conv => whnf) | (refine get_of (by assumption) ?_; conv => whnf) | (refine get_map (by assumption) ?_; conv => whnf) | (refine brd_t rfl ?_; conv => whnf) | (refine draw_lex hE ?_ ?_; decide +kernel; conv => whnf) | (refine brd (fun h => ?_) (fun h => ?_) <;> conv => whnf) | (refine br (fun h => ?_) (fun h => ?_) <;> conv => whnf) | (refine ret_now hE ?_; conv => whnf) | (intro hlen; conv => whnf) | (refine seg_here ?_; conv => whnf) | (refine both ?_ ?_ <;> conv => whnf))
    all_goals exact ⟨rfl, rfl⟩
  · by_cases hl : 7 < s.length
    · have hn : numR 10 7 s = none := if_pos (.inr hl)
      rw [hn]
      refine fn1GE (T := Tryd.tt) Tryd.func60 rfl tt_all follows_all ?_ ?_ fun C hC hW hG hE => ?_
      · kernel_rfl
      · exact Nat.le_of_ble_eq_true (by kernel_rfl)
      conv => whnf
      repeat' (first | (refine brd_t (by first | assumption | omega) ?_; conv => whnf) | (refine brd_f (by first | assumption | omega) ?_; conv => whnf) | (refine ask (by first | assumption | omega) ?_; conv => whnf) | (refine fit64 (by omega) ?_; conv => whnf) | (refine fit (by simp only [kmin, kmax]; omega) ?_; conv => whnf) | (refine br_t (by assumption) ?_; conv => whnf) | (refine br_f (by assumption) ?_; conv => whnf) | (refine get_of (by assumption) ?_; conv => whnf) | (refine get_map (by assumption) ?_; conv => whnf) | (refine draw_lex hE ?_ ?_; decide +kernel; conv => whnf) | (refine brd (fun h => ?_) (fun h => ?_) <;> conv => whnf) | (refine br (fun h => ?_) (fun h => ?_) <;> conv => whnf) | (refine ret_now hE ?_; conv => whnf) | (intro hlen; conv => whnf) | (refine seg_here ?_; conv => whnf) | (refine both ?_ ?_ <;> conv => whnf))
      all_goals exact ⟨rfl, rfl⟩
    · have hn : numR 10 7 s = (pU 10 0 s).map fixR := if_neg (by intro h; rcases h with h | h; exact hs h; exact hl h)
      rw [hn]
      have hca := contains_any s (by omega)
      cases hc : (runesL s).any inC with
      | true =>
        rw [hc] at hca
        rw [any_in hc]
        refine fn1GE (T := Tryd.tt) Tryd.func60 rfl tt_all follows_all ?_ ?_ fun C hC hW hG hE => ?_
        · kernel_rfl
        · exact Nat.le_of_ble_eq_true (by kernel_rfl)
        conv => whnf
        repeat' (first | (refine brd_t (by first | assumption | omega) ?_; conv => whnf) | (refine brd_f (by first | assumption | omega) ?_; conv => whnf) | (refine ask (by first | assumption | omega) ?_; conv => whnf) | (refine fit64 (by omega) ?_; conv => whnf) | (refine fit (by simp only [kmin, kmax]; omega) ?_; conv => whnf) | (refine br_t (by assumption) ?_; conv => whnf) | (refine br_f (by assumption) ?_; conv => whnf) | (refine get_of (by assumption) ?_; conv => whnf) | (refine get_map (by assumption) ?_; conv => whnf) | (refine call_eq (hca) hC hasBody_80 ?_ ?_ ?_; kernel_rfl; kernel_rfl; conv => whnf) | (refine callq_eq (hca) hC hasBody_80 ?_ ?_ ?_; kernel_rfl; kernel_rfl; conv => whnf) | (refine draw_lex hE ?_ ?_; decide +kernel; conv => whnf) | (refine brd (fun h => ?_) (fun h => ?_) <;> conv => whnf) | (refine br (fun h => ?_) (fun h => ?_) <;> conv => whnf) | (refine ret_now hE ?_; conv => whnf) | (intro hlen; conv => whnf) | (refine seg_here ?_; conv => whnf) | (refine both ?_ ?_ <;> conv => whnf))
        all_goals exact ⟨rfl, rfl⟩
      | false =>
        rw [hc] at hca
        obtain ⟨c, t, rfl⟩ : ∃ c t, s = c :: t := by
          cases s with
          | nil => exact absurd rfl hs
          | cons c t => exact ⟨c, t, rfl⟩
        obtain ⟨h43, h45⟩ := any_out hc
        have hlt : t.length ≤ 6 := by simp at hl; omega
        have hpi := publicInt_10 c t h43 h45 hlt
        have hsm : ∀ m, pU 10 0 (c :: t) = some m → m < 268435456 := fun m h => pU_small (by omega) (by simp; omega) h
        generalize pU 10 0 (c :: t) = o at *
        cases o with
        | none =>
          have hpi : Fn1G Tryd.prog GE 81 [.str (c :: t), .int .i64 10, .int .i64 64] (fun r => r = .tup [.int .i64 0, .ifx]) := hpi
          refine fn1GE (T := Tryd.tt) Tryd.func60 rfl tt_all follows_all ?_ ?_ fun C hC hW hG hE => ?_
          · kernel_rfl
          · exact Nat.le_of_ble_eq_true (by kernel_rfl)
          conv => whnf
          have hpc := hpi.c hC hW kept_ge hG
          repeat' (first | (refine brd_t (by first | assumption | omega) ?_; conv => whnf) | (refine brd_f (by first | assumption | omega) ?_; conv => whnf) | (refine ask (by first | assumption | omega) ?_; conv => whnf) | (refine fit64 (by omega) ?_; conv => whnf) | (refine fit (by simp only [kmin, kmax]; omega) ?_; conv => whnf) | (refine br_t (by assumption) ?_; conv => whnf) | (refine br_f (by assumption) ?_; conv => whnf) | (refine get_of (by assumption) ?_; conv => whnf) | (refine get_map (by assumption) ?_; conv => whnf) | (refine cmp_ne 151 (by rw [hC]; kernel_rfl) (by rw [hC]; kernel_rfl) ?_; conv => whnf) | (refine call_eq (hca) hC hasBody_80 ?_ ?_ ?_; kernel_rfl; kernel_rfl; conv => whnf) | (refine callq_eq (hca) hC hasBody_80 ?_ ?_ ?_; kernel_rfl; kernel_rfl; conv => whnf) | (refine callc_eq (hpc) hC hasBody_81 rfl ?_ ?_ ?_; kernel_rfl; kernel_rfl; conv => whnf) | (refine callcq_eq (hpc) hC hasBody_81 rfl ?_ ?_ ?_; kernel_rfl; kernel_rfl; conv => whnf) | (refine draw_lex hE ?_ ?_; decide +kernel; conv => whnf) | (refine brd (fun h => ?_) (fun h => ?_) <;> conv => whnf) | (refine br (fun h => ?_) (fun h => ?_) <;> conv => whnf) | (refine ret_now hE ?_; conv => whnf) | (intro hlen; conv => whnf) | (refine seg_here ?_; conv => whnf) | (refine both ?_ ?_ <;> conv => whnf))
          all_goals exact ⟨rfl, rfl⟩
        | some m =>
          have hpi : Fn1G Tryd.prog GE 81 [.str (c :: t), .int .i64 10, .int .i64 64] (fun r => r = .tup [.int .i64 (m : Nat), .nili]) := hpi
          have hm := hsm m rfl
          clear hsm
          have hv := valid_rune (m : Int)
          have hfx : fixR m = if m = 0 ∨ 1114111 < m ∨ letB m = false then 65533 else m := rfl
          show Fn1G _ _ _ _ (fun r => r = .tup [.int .i32 ((fixR m : Nat) : Int), .bool true])
          cases hb : letB (m : Int) with
          | true =>
            rw [hb] at hv hfx
            refine fn1GE (T := Tryd.tt) Tryd.func60 rfl tt_all follows_all ?_ ?_ fun C hC hW hG hE => ?_
            · kernel_rfl
            · exact Nat.le_of_ble_eq_true (by kernel_rfl)
            conv => whnf
            have hpc := hpi.c hC hW kept_ge hG
            repeat' (first | (refine brd_t (by first | assumption | omega) ?_; conv => whnf) | (refine brd_f (by first | assumption | omega) ?_; conv => whnf) | (refine ask (by first | assumption | omega) ?_; conv => whnf) | (refine fit64 (by omega) ?_; conv => whnf) | (refine fit (by simp only [kmin, kmax]; omega) ?_; conv => whnf) | (refine br_t (by assumption) ?_; conv => whnf) | (refine br_f (by assumption) ?_; conv => whnf) | (refine get_of (by assumption) ?_; conv => whnf) | (refine get_map (by assumption) ?_; conv => whnf) | (refine cmp_ne 151 (by rw [hC]; kernel_rfl) (by rw [hC]; kernel_rfl) ?_; conv => whnf) | (refine call_eq (hca) hC hasBody_80 ?_ ?_ ?_; kernel_rfl; kernel_rfl; conv => whnf) | (refine callq_eq (hca) hC hasBody_80 ?_ ?_ ?_; kernel_rfl; kernel_rfl; conv => whnf) | (refine callc_eq (hpc) hC hasBody_81 rfl ?_ ?_ ?_; kernel_rfl; kernel_rfl; conv => whnf) | (refine callcq_eq (hpc) hC hasBody_81 rfl ?_ ?_ ?_; kernel_rfl; kernel_rfl; conv => whnf) | (refine call_eq (hv) hC hasBody_82 ?_ ?_ ?_; kernel_rfl; kernel_rfl; conv => whnf) | (refine callq_eq (hv) hC hasBody_82 ?_ ?_ ?_; kernel_rfl; kernel_rfl; conv => whnf) | (refine draw_lex hE ?_ ?_; decide +kernel; conv => whnf) | (refine brd (fun h => ?_) (fun h => ?_) <;> conv => whnf) | (refine br (fun h => ?_) (fun h => ?_) <;> conv => whnf) | (refine ret_now hE ?_; conv => whnf) | (intro hlen; conv => whnf) | (refine seg_here ?_; conv => whnf) | (refine both ?_ ?_ <;> conv => whnf))
            all_goals first
              | (rw [if_pos (by omega)] at hfx; rw [hfx]; exact ⟨rfl, rfl⟩)
              | (rw [if_neg (by simp; omega)] at hfx; rw [hfx]; exact ⟨rfl, rfl⟩)
          | false =>
            rw [hb] at hv hfx
            rw [if_pos (.inr (.inr rfl))] at hfx
            rw [hfx]
            refine fn1GE (T := Tryd.tt) Tryd.func60 rfl tt_all follows_all ?_ ?_ fun C hC hW hG hE => ?_
            · kernel_rfl
            · exact Nat.le_of_ble_eq_true (by kernel_rfl)
            conv => whnf
            have hpc := hpi.c hC hW kept_ge hG
            repeat' (first | (refine brd_t (by first | assumption | omega) ?_; conv => whnf) | (refine brd_f (by first | assumption | omega) ?_; conv => whnf) | (refine ask (by first | assumption | omega) ?_; conv => whnf) | (refine fit64 (by omega) ?_; conv => whnf) | (refine fit (by simp only [kmin, kmax]; omega) ?_; conv => whnf) | (refine br_t (by assumption) ?_; conv => whnf) | (refine br_f (by assumption) ?_; conv => whnf) | (refine get_of (by assumption) ?_; conv => whnf) | (refine get_map (by assumption) ?_; conv => whnf) | (refine cmp_ne 151 (by rw [hC]; kernel_rfl) (by rw [hC]; kernel_rfl) ?_; conv => whnf) | (refine call_eq (hca) hC hasBody_80 ?_ ?_ ?_; kernel_rfl; kernel_rfl; conv => whnf) | (refine callq_eq (hca) hC hasBody_80 ?_ ?_ ?_; kernel_rfl; kernel_rfl; conv => whnf) | (refine callc_eq (hpc) hC hasBody_81 rfl ?_ ?_ ?_; kernel_rfl; kernel_rfl; conv => whnf) | (refine callcq_eq (hpc) hC hasBody_81 rfl ?_ ?_ ?_; kernel_rfl; kernel_rfl; conv => whnf) | (refine call_eq (hv) hC hasBody_82 ?_ ?_ ?_; kernel_rfl; kernel_rfl; conv => whnf) | (refine callq_eq (hv) hC hasBody_82 ?_ ?_ ?_; kernel_rfl; kernel_rfl; conv => whnf) | (refine draw_lex hE ?_ ?_; decide +kernel; conv => whnf) | (refine brd (fun h => ?_) (fun h => ?_) <;> conv => whnf) | (refine br (fun h => ?_) (fun h => ?_) <;> conv => whnf) | (refine ret_now hE ?_; conv => whnf) | (intro hlen; conv => whnf) | (refine seg_here ?_; conv => whnf) | (refine both ?_ ?_ <;> conv => whnf))
            all_goals exact ⟨rfl, rfl⟩

set_option maxHeartbeats 4000000 in
theorem numbered_16 (s : List UInt8) : Fn1G Tryd.prog GE 60 [.str s, .int .i64 16, .int .i64 6] (fun r => r = rV (numR 16 6 s)) := by
  by_cases hs : s = []
  · subst hs
    refine fn1GE (T := Tryd.tt) Tryd.func60 rfl tt_all follows_all ?_ ?_ fun C hC hW hG hE => ?_
    · kernel_rfl
    · exact Nat.le_of_ble_eq_true (by kernel_rfl)
    conv => whnf
    repeat' (first | (refine brd_t (by first | assumption | omega) ?_; conv => whnf) | (refine brd_f (by first | assumption | omega) ?_; conv => whnf) | (refine ask (by first | assumption | omega) ?_; conv => whnf) | (refine fit64 (by omega) ?_; conv => whnf) | (refine fit (by simp only [kmin, kmax]; omega) ?_; conv => whnf) | (refine br_t (by assumption) ?_; conv => whnf) | (refine br_f (by assumption) ?_; conv => whnf) | (refine get_of (by assumption) ?_; conv => whnf) | (refine get_map (by assumption) ?_; conv => whnf) | (refine brd_t rfl ?_; conv => whnf) | (refine draw_lex hE ?_ ?_; decide +kernel; conv => whnf) | (refine brd (fun h => ?_) (fun h => ?_) <;> conv => whnf) | (refine br (fun h => ?_) (fun h => ?_) <;> conv => whnf) | (refine ret_now hE ?_; conv => whnf) | (intro hlen; conv => whnf) | (refine seg_here ?_; conv => whnf) | (refine both ?_ ?_ <;> conv => whnf))
    all_goals exact ⟨rfl, rfl⟩
  · by_cases hl : 6 < s.length
    · have hn : numR 16 6 s = none := if_pos (.inr hl)
      rw [hn]
      refine fn1GE (T := Tryd.tt) Tryd.func60 rfl tt_all follows_all ?_ ?_ fun C hC hW hG hE => ?_
      · kernel_rfl
      · exact Nat.le_of_ble_eq_true (by kernel_rfl)
      conv => whnf
      repeat' (first | (refine brd_t (by first | assumption | omega) ?_; conv => whnf) | (refine brd_f (by first | assumption | omega) ?_; conv => whnf) | (refine ask (by first | assumption | omega) ?_; conv => whnf) | (refine fit64 (by omega) ?_; conv => whnf) | (refine fit (by simp only [kmin, kmax]; omega) ?_; conv => whnf) | (refine br_t (by assumption) ?_; conv => whnf) | (refine br_f (by assumption) ?_; conv => whnf) | (refine get_of (by assumption) ?_; conv => whnf) | (refine get_map (by assumption) ?_; conv => whnf) | (refine draw_lex hE ?_ ?_; decide +kernel; conv => whnf) | (refine brd (fun h => ?_) (fun h => ?_) <;> conv => whnf) | (refine br (fun h => ?_) (fun h => ?_) <;> conv => whnf) | (refine ret_now hE ?_; conv => whnf) | (intro hlen; conv => whnf) | (refine seg_here ?_; conv => whnf) | (refine both ?_ ?_ <;> conv => whnf))
      all_goals exact ⟨rfl, rfl⟩
    · have hn : numR 16 6 s = (pU 16 0 s).map fixR := if_neg (by intro h; rcases h with h | h; exact hs h; exact hl h)
      rw [hn]
      have hca := contains_any s (by omega)
      cases hc : (runesL s).any inC with
      | true =>
        rw [hc] at hca
        rw [any_in hc]
        refine fn1GE (T := Tryd.tt) Tryd.func60 rfl tt_all follows_all ?_ ?_ fun C hC hW hG hE => ?_
        · kernel_rfl
        · exact Nat.le_of_ble_eq_true (by kernel_rfl)
        conv => whnf
        repeat' (first | (refine brd_t (by first | assumption | omega) ?_; conv => whnf) | (refine brd_f (by first | assumption | omega) ?_; conv => whnf) | (refine ask (by first | assumption | omega) ?_; conv => whnf) | (refine fit64 (by omega) ?_; conv => whnf) | (refine fit (by simp only [kmin, kmax]; omega) ?_; conv => whnf) | (refine br_t (by assumption) ?_; conv => whnf) | (refine br_f (by assumption) ?_; conv => whnf) | (refine get_of (by assumption) ?_; conv => whnf) | (refine get_map (by assumption) ?_; conv => whnf) | (refine call_eq (hca) hC hasBody_80 ?_ ?_ ?_; kernel_rfl; kernel_rfl; conv => whnf) | (refine callq_eq (hca) hC hasBody_80 ?_ ?_ ?_; kernel_rfl; kernel_rfl; conv => whnf) | (refine draw_lex hE ?_ ?_; decide +kernel; conv => whnf) | (refine brd (fun h => ?_) (fun h => ?_) <;> conv => whnf) | (refine br (fun h => ?_) (fun h => ?_) <;> conv => whnf) | (refine ret_now hE ?_; conv => whnf) | (intro hlen; conv => whnf) | (refine seg_here ?_; conv => whnf) | (refine both ?_ ?_ <;> conv => whnf))
        all_goals exact ⟨rfl, rfl⟩
      | false =>
        rw [hc] at hca
        obtain ⟨c, t, rfl⟩ : ∃ c t, s = c :: t := by
          cases s with
          | nil => exact absurd rfl hs
          | cons c t => exact ⟨c, t, rfl⟩
        obtain ⟨h43, h45⟩ := any_out hc
        have hlt : t.length ≤ 6 := by simp at hl; omega
        have hpi := publicInt_16 c t h43 h45 hlt
        have hsm : ∀ m, pU 16 0 (c :: t) = some m → m < 268435456 := fun m h => pU_small (by omega) (by simp; omega) h
        generalize pU 16 0 (c :: t) = o at *
        cases o with
        | none =>
          have hpi : Fn1G Tryd.prog GE 81 [.str (c :: t), .int .i64 16, .int .i64 64] (fun r => r = .tup [.int .i64 0, .ifx]) := hpi
          refine fn1GE (T := Tryd.tt) Tryd.func60 rfl tt_all follows_all ?_ ?_ fun C hC hW hG hE => ?_
          · kernel_rfl
          · exact Nat.le_of_ble_eq_true (by kernel_rfl)
          conv => whnf
          have hpc := hpi.c hC hW kept_ge hG
          repeat' (first | (refine brd_t (by first | assumption | omega) ?_; conv => whnf) | (refine brd_f (by first | assumption | omega) ?_; conv => whnf) | (refine ask (by first | assumption | omega) ?_; conv => whnf) | (refine fit64 (by omega) ?_; conv => whnf) | (refine fit (by simp only [kmin, kmax]; omega) ?_; conv => whnf) | (refine br_t (by assumption) ?_; conv => whnf) | (refine br_f (by assumption) ?_; conv => whnf) | (refine get_of (by assumption) ?_; conv => whnf) | (refine get_map (by assumption) ?_; conv => whnf) | (refine cmp_ne 151 (by rw [hC]; kernel_rfl) (by rw [hC]; kernel_rfl) ?_; conv => whnf) | (refine call_eq (hca) hC hasBody_80 ?_ ?_ ?_; kernel_rfl; kernel_rfl; conv => whnf) | (refine callq_eq (hca) hC hasBody_80 ?_ ?_ ?_; kernel_rfl; kernel_rfl; conv => whnf) | (refine callc_eq (hpc) hC hasBody_81 rfl ?_ ?_ ?_; kernel_rfl; kernel_rfl; conv => whnf) | (refine callcq_eq (hpc) hC hasBody_81 rfl ?_ ?_ ?_; kernel_rfl; kernel_rfl; conv => whnf) | (refine draw_lex hE ?_ ?_; decide +kernel; conv => whnf) | (refine brd (fun h => ?_) (fun h => ?_) <;> conv => whnf) | (refine br (fun h => ?_) (fun h => ?_) <;> conv => whnf) | (refine ret_now hE ?_; conv => whnf) | (intro hlen; conv => whnf) | (refine seg_here ?_; conv => whnf) | (refine both ?_ ?_ <;> conv => whnf))
          all_goals exact ⟨rfl, rfl⟩
        | some m =>
          have hpi : Fn1G Tryd.prog GE 81 [.str (c :: t), .int .i64 16, .int .i64 64] (fun r => r = .tup [.int .i64 (m : Nat), .nili]) := hpi
          have hm := hsm m rfl
          clear hsm
          have hv := valid_rune (m : Int)
          have hfx : fixR m = if m = 0 ∨ 1114111 < m ∨ letB m = false then 65533 else m := rfl
          show Fn1G _ _ _ _ (fun r => r = .tup [.int .i32 ((fixR m : Nat) : Int), .bool true])
          cases hb : letB (m : Int) with
          | true =>
            rw [hb] at hv hfx
            refine fn1GE (T := Tryd.tt) Tryd.func60 rfl tt_all follows_all ?_ ?_ fun C hC hW hG hE => ?_
            · kernel_rfl
            · exact Nat.le_of_ble_eq_true (by kernel_rfl)
            conv => whnf
            have hpc := hpi.c hC hW kept_ge hG
            repeat' (first | (refine brd_t (by first | assumption | omega) ?_; conv => whnf) | (refine brd_f (by first | assumption | omega) ?_; conv => whnf) | (refine ask (by first | assumption | omega) ?_; conv => whnf) | (refine fit64 (by omega) ?_; conv => whnf) | (refine fit (by simp only [kmin, kmax]; omega) ?_; conv => whnf) | (refine br_t (by assumption) ?_; conv => whnf) | (refine br_f (by assumption) ?_; conv => whnf) | (refine get_of (by assumption) ?_; conv => whnf) | (refine get_map (by assumption) ?_; conv => whnf) | (refine cmp_ne 151 (by rw [hC]; kernel_rfl) (by rw [hC]; kernel_rfl) ?_; conv => whnf) | (refine call_eq (hca) hC hasBody_80 ?_ ?_ ?_; kernel_rfl; kernel_rfl; conv => whnf) | (refine callq_eq (hca) hC hasBody_80 ?_ ?_ ?_; kernel_rfl; kernel_rfl; conv => whnf) | (refine callc_eq (hpc) hC hasBody_81 rfl ?_ ?_ ?_; kernel_rfl; kernel_rfl; conv => whnf) | (refine callcq_eq (hpc) hC hasBody_81 rfl ?_ ?_ ?_; kernel_rfl; kernel_rfl; conv => whnf) | (refine call_eq (hv) hC hasBody_82 ?_ ?_ ?_; kernel_rfl; kernel_rfl; conv => whnf) | (refine callq_eq (hv) hC hasBody_82 ?_ ?_ ?_; kernel_rfl; kernel_rfl; conv => whnf) | (refine draw_lex hE ?_ ?_; decide +kernel; conv => whnf) | (refine brd (fun h => ?_) (fun h => ?_) <;> conv => whnf) | (refine br (fun h => ?_) (fun h => ?_) <;> conv => whnf) | (refine ret_now hE ?_; conv => whnf) | (intro hlen; conv => whnf) | (refine seg_here ?_; conv => whnf) | (refine both ?_ ?_ <;> conv => whnf))
            all_goals first
              | (rw [if_pos (by omega)] at hfx; rw [hfx]; exact ⟨rfl, rfl⟩)
              | (rw [if_neg (by simp; omega)] at hfx; rw [hfx]; exact ⟨rfl, rfl⟩)
          | false =>
            rw [hb] at hv hfx
            rw [if_pos (.inr (.inr rfl))] at hfx
            rw [hfx]
            refine fn1GE (T := Tryd.tt) Tryd.func60 rfl tt_all follows_all ?_ ?_ fun C hC hW hG hE => ?_
            · kernel_rfl
            · exact Nat.le_of_ble_eq_true (by kernel_rfl)
            conv => whnf
            have hpc := hpi.c hC hW kept_ge hG
            repeat' (first | (refine brd_t (by first | assumption | omega) ?_; conv => whnf) | (refine brd_f (by first | assumption | omega) ?_; conv => whnf) | (refine ask (by first | assumption | omega) ?_; conv => whnf) | (refine fit64 (by omega) ?_; conv => whnf) | (refine fit (by simp only [kmin, kmax]; omega) ?_; conv => whnf) | (refine br_t (by assumption) ?_; conv => whnf) | (refine br_f (by assumption) ?_; conv => whnf) | (refine get_of (by assumption) ?_; conv => whnf) | (refine get_map (by assumption) ?_; conv => whnf) | (refine cmp_ne 151 (by rw [hC]; kernel_rfl) (by rw [hC]; kernel_rfl) ?_; conv => whnf) | (refine call_eq (hca) hC hasBody_80 ?_ ?_ ?_; kernel_rfl; kernel_rfl; conv => whnf) | (refine callq_eq (hca) hC hasBody_80 ?_ ?_ ?_; kernel_rfl; kernel_rfl; conv => whnf) | (refine callc_eq (hpc) hC hasBody_81 rfl ?_ ?_ ?_; kernel_rfl; kernel_rfl; conv => whnf) | (refine callcq_eq (hpc) hC hasBody_81 rfl ?_ ?_ ?_; kernel_rfl; kernel_rfl; conv => whnf) | (refine call_eq (hv) hC hasBody_82 ?_ ?_ ?_; kernel_rfl; kernel_rfl; conv => whnf) | (refine callq_eq (hv) hC hasBody_82 ?_ ?_ ?_; kernel_rfl; kernel_rfl; conv => whnf) | (refine draw_lex hE ?_ ?_; decide +kernel; conv => whnf) | (refine brd (fun h => ?_) (fun h => ?_) <;> conv => whnf) | (refine br (fun h => ?_) (fun h => ?_) <;> conv => whnf) | (refine ret_now hE ?_; conv => whnf) | (intro hlen; conv => whnf) | (refine seg_here ?_; conv => whnf) | (refine both ?_ ?_ <;> conv => whnf))
            all_goals exact ⟨rfl, rfl⟩
end Go.Proofs.YtaeeceabnkgnnaaDoor

/-! ref.letter and ref.named, walked. No conditions. -/
namespace Go.Proofs.YtaeeceabnkgnnaaDoor
open Go.RowKit

theorem hasBody_79 : hasBody Tryd.prog 79 = true := by kernel_rfl
theorem hasBody_98 : hasBody Tryd.prog 98 = true := by kernel_rfl
/-- Without its '#', and whether it had one. -/
def cutH : List UInt8 → List UInt8 × Bool
  | [] => ([], false)
  | c :: r => if c = 35 then (r, true) else (c :: r, false)
theorem has_hash (c : UInt8) (r : List UInt8) : Fn1 Tryd.prog 98 [.str (c :: r), .str [35]] (fun v => v = .bool (decide (c = 35))) := by
  have hl : 1 ≤ (c :: r).length := by simp
  have hl1 : ([35] : List UInt8).length = 1 := rfl
  have ht : (c :: r).take (([35] : List UInt8).length : Int).toNat = [c] := rfl
  by_cases hc : c = 35
  · rw [decide_eq_true hc]
    subst hc
    refine fn1E (T := Tryd.tt) Tryd.func98 rfl tt_all follows_all ?_ ?_ fun C hC hE => ?_
    · kernel_rfl
    · exact Nat.le_of_ble_eq_true (by kernel_rfl)
    conv => whnf
    repeat' (first | (refine brd_t (by first | assumption | omega) ?_; conv => whnf) | (refine brd_f (by first | assumption | omega) ?_; conv => whnf) | (refine ask (by first | assumption | omega) ?_; conv => whnf) | (refine fit64 (by omega) ?_; conv => whnf) | (refine fit (by simp only [kmin, kmax]; omega) ?_; conv => whnf) | (refine br_t (by assumption) ?_; conv => whnf) | (refine br_f (by assumption) ?_; conv => whnf) | (refine get_of (by assumption) ?_; conv => whnf) | (refine get_map (by assumption) ?_; conv => whnf) | (refine brd_t rfl ?_; conv => whnf) | (refine draw_lex hE ?_ ?_; decide +kernel; conv => whnf) | (refine brd (fun h => ?_) (fun h => ?_) <;> conv => whnf) | (refine br (fun h => ?_) (fun h => ?_) <;> conv => whnf) | (refine ret_now hE ?_; conv => whnf) | (intro hlen; conv => whnf) | (refine seg_here ?_; conv => whnf) | (refine both ?_ ?_ <;> conv => whnf))
    all_goals exact ⟨rfl, rfl⟩
  · rw [decide_eq_false hc]
    refine fn1E (T := Tryd.tt) Tryd.func98 rfl tt_all follows_all ?_ ?_ fun C hC hE => ?_
    · kernel_rfl
    · exact Nat.le_of_ble_eq_true (by kernel_rfl)
    conv => whnf
    repeat' (first | (refine brd_t (by first | assumption | omega) ?_; conv => whnf) | (refine brd_f (by first | assumption | omega) ?_; conv => whnf) | (refine ask (by first | assumption | omega) ?_; conv => whnf) | (refine fit64 (by omega) ?_; conv => whnf) | (refine fit (by simp only [kmin, kmax]; omega) ?_; conv => whnf) | (refine br_t (by assumption) ?_; conv => whnf) | (refine br_f (by assumption) ?_; conv => whnf) | (refine get_of (by assumption) ?_; conv => whnf) | (refine get_map (by assumption) ?_; conv => whnf) | (refine brd_f (show ¬ ([c] = [35]) from fun e => hc (List.cons.inj e).1) ?_; conv => whnf) | (refine draw_lex hE ?_ ?_; decide +kernel; conv => whnf) | (refine brd (fun h => ?_) (fun h => ?_) <;> conv => whnf) | (refine br (fun h => ?_) (fun h => ?_) <;> conv => whnf) | (refine ret_now hE ?_; conv => whnf) | (intro hlen; conv => whnf) | (refine seg_here ?_; conv => whnf) | (refine both ?_ ?_ <;> conv => whnf))
    all_goals exact ⟨rfl, rfl⟩
theorem has_hash0 : Fn1 Tryd.prog 98 [.str [], .str [35]] (fun v => v = .bool false) := by
  have hl1 : ([35] : List UInt8).length = 1 := rfl
  have hl0 : ([] : List UInt8).length = 0 := rfl
  refine fn1E (T := Tryd.tt) Tryd.func98 rfl tt_all follows_all ?_ ?_ fun C hC hE => ?_
  · kernel_rfl
  · exact Nat.le_of_ble_eq_true (by kernel_rfl)
  conv => whnf
  repeat' (first | (refine brd_t (by first | assumption | omega) ?_; conv => whnf) | (refine brd_f (by first | assumption | omega) ?_; conv => whnf) | (refine ask (by first | assumption | omega) ?_; conv => whnf) | (refine fit64 (by omega) ?_; conv => whnf) | (refine fit (by simp only [kmin, kmax]; omega) ?_; conv => whnf) | (refine br_t (by assumption) ?_; conv => whnf) | (refine br_f (by assumption) ?_; conv => whnf) | (refine get_of (by assumption) ?_; conv => whnf) | (refine get_map (by assumption) ?_; conv => whnf) | (refine draw_lex hE ?_ ?_; decide +kernel; conv => whnf) | (refine brd (fun h => ?_) (fun h => ?_) <;> conv => whnf) | (refine br (fun h => ?_) (fun h => ?_) <;> conv => whnf) | (refine ret_now hE ?_; conv => whnf) | (intro hlen; conv => whnf) | (refine seg_here ?_; conv => whnf) | (refine both ?_ ?_ <;> conv => whnf))
  all_goals exact ⟨rfl, rfl⟩
theorem cut_hash1 (s : List UInt8) : Fn1 Tryd.prog 79 [.str s, .str [35]] (fun v => v = .tup [.str (cutH s).1, .bool (cutH s).2]) := by
  match s with
  | [] =>
    have hh := has_hash0
    refine fn1E (T := Tryd.tt) Tryd.func79 rfl tt_all follows_all ?_ ?_ fun C hC hE => ?_
    · kernel_rfl
    · exact Nat.le_of_ble_eq_true (by kernel_rfl)
    conv => whnf
    repeat' (first | (refine brd_t (by first | assumption | omega) ?_; conv => whnf) | (refine brd_f (by first | assumption | omega) ?_; conv => whnf) | (refine ask (by first | assumption | omega) ?_; conv => whnf) | (refine fit64 (by omega) ?_; conv => whnf) | (refine fit (by simp only [kmin, kmax]; omega) ?_; conv => whnf) | (refine br_t (by assumption) ?_; conv => whnf) | (refine br_f (by assumption) ?_; conv => whnf) | (refine get_of (by assumption) ?_; conv => whnf) | (refine get_map (by assumption) ?_; conv => whnf) | (refine call_eq (hh) hC hasBody_98 ?_ ?_ ?_; kernel_rfl; kernel_rfl; conv => whnf) | (refine callq_eq (hh) hC hasBody_98 ?_ ?_ ?_; kernel_rfl; kernel_rfl; conv => whnf) | (refine draw_lex hE ?_ ?_; decide +kernel; conv => whnf) | (refine brd (fun h => ?_) (fun h => ?_) <;> conv => whnf) | (refine br (fun h => ?_) (fun h => ?_) <;> conv => whnf) | (refine ret_now hE ?_; conv => whnf) | (intro hlen; conv => whnf) | (refine seg_here ?_; conv => whnf) | (refine both ?_ ?_ <;> conv => whnf))
    all_goals exact ⟨rfl, rfl⟩
  | c :: r =>
    have hl1 : ([35] : List UInt8).length = 1 := rfl
    have hh := has_hash c r
    have hle : (([35] : List UInt8).length : Int).toNat ≤ (c :: r).length := by simp
    by_cases hc : c = 35
    · rw [decide_eq_true hc] at hh
      have e : cutH (c :: r) = (r, true) := if_pos hc
      rw [e]
      refine fn1E (T := Tryd.tt) Tryd.func79 rfl tt_all follows_all ?_ ?_ fun C hC hE => ?_
      · kernel_rfl
      · exact Nat.le_of_ble_eq_true (by kernel_rfl)
      conv => whnf
      repeat' (first | (refine brd_t (by first | assumption | omega) ?_; conv => whnf) | (refine brd_f (by first | assumption | omega) ?_; conv => whnf) | (refine ask (by first | assumption | omega) ?_; conv => whnf) | (refine fit64 (by omega) ?_; conv => whnf) | (refine fit (by simp only [kmin, kmax]; omega) ?_; conv => whnf) | (refine br_t (by assumption) ?_; conv => whnf) | (refine br_f (by assumption) ?_; conv => whnf) | (refine get_of (by assumption) ?_; conv => whnf) | (refine get_map (by assumption) ?_; conv => whnf) | (refine call_eq (hh) hC hasBody_98 ?_ ?_ ?_; kernel_rfl; kernel_rfl; conv => whnf) | (refine callq_eq (hh) hC hasBody_98 ?_ ?_ ?_; kernel_rfl; kernel_rfl; conv => whnf) | (refine draw_lex hE ?_ ?_; decide +kernel; conv => whnf) | (refine brd (fun h => ?_) (fun h => ?_) <;> conv => whnf) | (refine br (fun h => ?_) (fun h => ?_) <;> conv => whnf) | (refine ret_now hE ?_; conv => whnf) | (intro hlen; conv => whnf) | (refine seg_here ?_; conv => whnf) | (refine both ?_ ?_ <;> conv => whnf))
      all_goals exact ⟨rfl, rfl⟩
    · rw [decide_eq_false hc] at hh
      have e : cutH (c :: r) = (c :: r, false) := if_neg hc
      rw [e]
      refine fn1E (T := Tryd.tt) Tryd.func79 rfl tt_all follows_all ?_ ?_ fun C hC hE => ?_
      · kernel_rfl
      · exact Nat.le_of_ble_eq_true (by kernel_rfl)
      conv => whnf
      repeat' (first | (refine brd_t (by first | assumption | omega) ?_; conv => whnf) | (refine brd_f (by first | assumption | omega) ?_; conv => whnf) | (refine ask (by first | assumption | omega) ?_; conv => whnf) | (refine fit64 (by omega) ?_; conv => whnf) | (refine fit (by simp only [kmin, kmax]; omega) ?_; conv => whnf) | (refine br_t (by assumption) ?_; conv => whnf) | (refine br_f (by assumption) ?_; conv => whnf) | (refine get_of (by assumption) ?_; conv => whnf) | (refine get_map (by assumption) ?_; conv => whnf) | (refine call_eq (hh) hC hasBody_98 ?_ ?_ ?_; kernel_rfl; kernel_rfl; conv => whnf) | (refine callq_eq (hh) hC hasBody_98 ?_ ?_ ?_; kernel_rfl; kernel_rfl; conv => whnf) | (refine draw_lex hE ?_ ?_; decide +kernel; conv => whnf) | (refine brd (fun h => ?_) (fun h => ?_) <;> conv => whnf) | (refine br (fun h => ?_) (fun h => ?_) <;> conv => whnf) | (refine ret_now hE ?_; conv => whnf) | (intro hlen; conv => whnf) | (refine seg_here ?_; conv => whnf) | (refine both ?_ ?_ <;> conv => whnf))
      all_goals exact ⟨rfl, rfl⟩
theorem cut_hash (s : List UInt8) : Fn1 Tryd.prog 59 [.str s, .str [35]] (fun v => v = .tup [.str (cutH s).1, .bool (cutH s).2]) := by
  have hh := cut_hash1 s
  generalize cutH s = p at *
  obtain ⟨a, b⟩ := p
  cases b
  all_goals
    refine fn1E (T := Tryd.tt) Tryd.func59 rfl tt_all follows_all ?_ ?_ fun C hC hE => ?_
    · kernel_rfl
    · exact Nat.le_of_ble_eq_true (by kernel_rfl)
    conv => whnf
    repeat' (first | (refine brd_t (by first | assumption | omega) ?_; conv => whnf) | (refine brd_f (by first | assumption | omega) ?_; conv => whnf) | (refine ask (by first | assumption | omega) ?_; conv => whnf) | (refine fit64 (by omega) ?_; conv => whnf) | (refine fit (by simp only [kmin, kmax]; omega) ?_; conv => whnf) | (refine br_t (by assumption) ?_; conv => whnf) | (refine br_f (by assumption) ?_; conv => whnf) | (refine get_of (by assumption) ?_; conv => whnf) | (refine get_map (by assumption) ?_; conv => whnf) | (refine call_eq (hh) hC hasBody_79 ?_ ?_ ?_; kernel_rfl; kernel_rfl; conv => whnf) | (refine callq_eq (hh) hC hasBody_79 ?_ ?_ ?_; kernel_rfl; kernel_rfl; conv => whnf) | (refine draw_lex hE ?_ ?_; decide +kernel; conv => whnf) | (refine brd (fun h => ?_) (fun h => ?_) <;> conv => whnf) | (refine br (fun h => ?_) (fun h => ?_) <;> conv => whnf) | (refine ret_now hE ?_; conv => whnf) | (intro hlen; conv => whnf) | (refine seg_here ?_; conv => whnf) | (refine both ?_ ?_ <;> conv => whnf))
    all_goals exact ⟨rfl, rfl⟩
/-! ### Names -/
def nmT (s : List UInt8) : Nat :=
  if s = [97, 109, 112] then 38 else if s = [108, 116] then 60 else if s = [103, 116] then 62 else if s = [113, 117, 111, 116] then 34 else if s = [110, 98, 115, 112] then 160 else if s = [99, 111, 112, 121] then 169 else 0
theorem named_walk (s : List UInt8) : Fn1 Tryd.prog 61 [.str s] (fun v => v = .int .i32 (nmT s : Nat)) := by
  have hn : nmT s = if s = [97, 109, 112] then 38 else if s = [108, 116] then 60 else if s = [103, 116] then 62 else if s = [113, 117, 111, 116] then 34 else if s = [110, 98, 115, 112] then 160 else if s = [99, 111, 112, 121] then 169 else 0 := rfl
  generalize nmT s = m at *
  subst hn
  refine fn1E (T := Tryd.tt) Tryd.func61 rfl tt_all follows_all ?_ ?_ fun C hC hE => ?_
  · kernel_rfl
  · exact Nat.le_of_ble_eq_true (by kernel_rfl)
  conv => whnf
  repeat' (first | (refine brd_t (by first | assumption | omega) ?_; conv => whnf) | (refine brd_f (by first | assumption | omega) ?_; conv => whnf) | (refine ask (by first | assumption | omega) ?_; conv => whnf) | (refine fit64 (by omega) ?_; conv => whnf) | (refine fit (by simp only [kmin, kmax]; omega) ?_; conv => whnf) | (refine br_t (by assumption) ?_; conv => whnf) | (refine br_f (by assumption) ?_; conv => whnf) | (refine get_of (by assumption) ?_; conv => whnf) | (refine get_map (by assumption) ?_; conv => whnf) | (refine draw_lex hE ?_ ?_; decide +kernel; conv => whnf) | (refine brd (fun h => ?_) (fun h => ?_) <;> conv => whnf) | (refine br (fun h => ?_) (fun h => ?_) <;> conv => whnf) | (refine ret_now hE ?_; conv => whnf) | (intro hlen; conv => whnf) | (refine seg_here ?_; conv => whnf) | (refine both ?_ ?_ <;> conv => whnf))
  all_goals exact ⟨rfl, by simp [*]⟩
def letR (s : List UInt8) : Option Nat :=
  if (cutH s).2 = true then (match (cutH s).1 with
    | [] => none
    | c :: r => if c = 120 ∨ c = 88 then numR 16 6 r else numR 10 7 (c :: r))
  else if nmT s = 0 then none else some (nmT s)
set_option maxHeartbeats 4000000 in
theorem letter_walk (s : List UInt8) : Fn1G Tryd.prog GE 34 [.str s] (fun v => v = rV (letR s)) := by
  have hch := cut_hash s
  have hnm := named_walk s
  have hlr : letR s = if (cutH s).2 = true then (match (cutH s).1 with
    | [] => none
    | c :: r => if c = 120 ∨ c = 88 then numR 16 6 r else numR 10 7 (c :: r))
  else if nmT s = 0 then none else some (nmT s) := rfl
  generalize cutH s = p at *
  obtain ⟨a, b⟩ := p
  cases b with
  | false =>
    rw [if_neg (by simp)] at hlr
    rw [hlr]
    by_cases h0 : nmT s = 0
    · rw [if_pos h0]
      rw [h0] at hnm
      refine fn1GE (T := Tryd.tt) Tryd.func34 rfl tt_all follows_all ?_ ?_ fun C hC hW hG hE => ?_
      · kernel_rfl
      · exact Nat.le_of_ble_eq_true (by kernel_rfl)
      conv => whnf
      repeat' (first | (refine brd_t (by first | assumption | omega) ?_; conv => whnf) | (refine brd_f (by first | assumption | omega) ?_; conv => whnf) | (refine ask (by first | assumption | omega) ?_; conv => whnf) | (refine fit64 (by omega) ?_; conv => whnf) | (refine fit (by simp only [kmin, kmax]; omega) ?_; conv => whnf) | (refine br_t (by assumption) ?_; conv => whnf) | (refine br_f (by assumption) ?_; conv => whnf) | (refine get_of (by assumption) ?_; conv => whnf) | (refine get_map (by assumption) ?_; conv => whnf) | (refine call_eq (hch) hC hasBody_59 ?_ ?_ ?_; kernel_rfl; kernel_rfl; conv => whnf) | (refine callq_eq (hch) hC hasBody_59 ?_ ?_ ?_; kernel_rfl; kernel_rfl; conv => whnf) | (refine call_eq (hnm) hC hasBody_61 ?_ ?_ ?_; kernel_rfl; kernel_rfl; conv => whnf) | (refine callq_eq (hnm) hC hasBody_61 ?_ ?_ ?_; kernel_rfl; kernel_rfl; conv => whnf) | (refine draw_lex hE ?_ ?_; decide +kernel; conv => whnf) | (refine brd (fun h => ?_) (fun h => ?_) <;> conv => whnf) | (refine br (fun h => ?_) (fun h => ?_) <;> conv => whnf) | (refine ret_now hE ?_; conv => whnf) | (intro hlen; conv => whnf) | (refine seg_here ?_; conv => whnf) | (refine both ?_ ?_ <;> conv => whnf))
      all_goals first | exact ⟨rfl, rfl⟩ | (exfalso; omega)
    · rw [if_neg h0]
      refine fn1GE (T := Tryd.tt) Tryd.func34 rfl tt_all follows_all ?_ ?_ fun C hC hW hG hE => ?_
      · kernel_rfl
      · exact Nat.le_of_ble_eq_true (by kernel_rfl)
      conv => whnf
      repeat' (first | (refine brd_t (by first | assumption | omega) ?_; conv => whnf) | (refine brd_f (by first | assumption | omega) ?_; conv => whnf) | (refine ask (by first | assumption | omega) ?_; conv => whnf) | (refine fit64 (by omega) ?_; conv => whnf) | (refine fit (by simp only [kmin, kmax]; omega) ?_; conv => whnf) | (refine br_t (by assumption) ?_; conv => whnf) | (refine br_f (by assumption) ?_; conv => whnf) | (refine get_of (by assumption) ?_; conv => whnf) | (refine get_map (by assumption) ?_; conv => whnf) | (refine call_eq (hch) hC hasBody_59 ?_ ?_ ?_; kernel_rfl; kernel_rfl; conv => whnf) | (refine callq_eq (hch) hC hasBody_59 ?_ ?_ ?_; kernel_rfl; kernel_rfl; conv => whnf) | (refine call_eq (hnm) hC hasBody_61 ?_ ?_ ?_; kernel_rfl; kernel_rfl; conv => whnf) | (refine callq_eq (hnm) hC hasBody_61 ?_ ?_ ?_; kernel_rfl; kernel_rfl; conv => whnf) | (refine draw_lex hE ?_ ?_; decide +kernel; conv => whnf) | (refine brd (fun h => ?_) (fun h => ?_) <;> conv => whnf) | (refine br (fun h => ?_) (fun h => ?_) <;> conv => whnf) | (refine ret_now hE ?_; conv => whnf) | (intro hlen; conv => whnf) | (refine seg_here ?_; conv => whnf) | (refine both ?_ ?_ <;> conv => whnf))
      all_goals first | exact ⟨rfl, rfl⟩ | (exfalso; omega)
  | true =>
    rw [if_pos rfl] at hlr
    match a, hch, hlr with
    | [], hch, hlr =>
      rw [hlr]
      have h10 := numbered_10 []
      have e : rV (numR 10 7 []) = rV none := rfl
      rw [e] at h10
      have h10 : Fn1G Tryd.prog GE 60 [.str [], .int .i64 10, .int .i64 7] (fun v => v = .tup [.int .i32 0, .bool false]) := h10
      refine fn1GE (T := Tryd.tt) Tryd.func34 rfl tt_all follows_all ?_ ?_ fun C hC hW hG hE => ?_
      · kernel_rfl
      · exact Nat.le_of_ble_eq_true (by kernel_rfl)
      conv => whnf
      have hc10 := h10.c hC hW kept_ge hG
      repeat' (first | (refine brd_t (by first | assumption | omega) ?_; conv => whnf) | (refine brd_f (by first | assumption | omega) ?_; conv => whnf) | (refine ask (by first | assumption | omega) ?_; conv => whnf) | (refine fit64 (by omega) ?_; conv => whnf) | (refine fit (by simp only [kmin, kmax]; omega) ?_; conv => whnf) | (refine br_t (by assumption) ?_; conv => whnf) | (refine br_f (by assumption) ?_; conv => whnf) | (refine get_of (by assumption) ?_; conv => whnf) | (refine get_map (by assumption) ?_; conv => whnf) | (refine call_eq (hch) hC hasBody_59 ?_ ?_ ?_; kernel_rfl; kernel_rfl; conv => whnf) | (refine callq_eq (hch) hC hasBody_59 ?_ ?_ ?_; kernel_rfl; kernel_rfl; conv => whnf) | (refine brd_t rfl ?_; conv => whnf) | (refine callc_eq (hc10) hC hasBody_60 rfl ?_ ?_ ?_; kernel_rfl; kernel_rfl; conv => whnf) | (refine callcq_eq (hc10) hC hasBody_60 rfl ?_ ?_ ?_; kernel_rfl; kernel_rfl; conv => whnf) | (refine draw_lex hE ?_ ?_; decide +kernel; conv => whnf) | (refine brd (fun h => ?_) (fun h => ?_) <;> conv => whnf) | (refine br (fun h => ?_) (fun h => ?_) <;> conv => whnf) | (refine ret_now hE ?_; conv => whnf) | (intro hlen; conv => whnf) | (refine seg_here ?_; conv => whnf) | (refine both ?_ ?_ <;> conv => whnf))
      all_goals exact ⟨rfl, rfl⟩
    | c :: r, hch, hlr =>
      have hlr : letR s = if c = 120 ∨ c = 88 then numR 16 6 r else numR 10 7 (c :: r) := hlr
      rw [hlr]
      have hne : ¬ (c :: r) = [] := by simp
      have hl1 : 1 ≤ (c :: r).length := by simp
      have h0 : Int.toNat 0 < (c :: r).length := by simp
      have h120 : (120 : UInt8).toNat = 120 := rfl
      have h88 : (88 : UInt8).toNat = 88 := rfl
      by_cases hx : c = 120 ∨ c = 88
      · have hx2 : (c.toNat : Int) = 120 ∨ (c.toNat : Int) = 88 := by rcases hx with rfl | rfl; exact .inl rfl; exact .inr rfl
        rw [if_pos hx]
        have h16 := numbered_16 r
        generalize numR 16 6 r = o at *
        have h16 : Fn1G Tryd.prog GE 60 [.str ((c :: r).drop (Int.toNat 1)), .int .i64 16, .int .i64 6] (fun v => v = rV o) := h16
        cases o with
        | none =>
          have h16 : Fn1G Tryd.prog GE 60 [.str ((c :: r).drop (Int.toNat 1)), .int .i64 16, .int .i64 6] (fun v => v = .tup [.int .i32 0, .bool false]) := h16
          refine fn1GE (T := Tryd.tt) Tryd.func34 rfl tt_all follows_all ?_ ?_ fun C hC hW hG hE => ?_
          · kernel_rfl
          · exact Nat.le_of_ble_eq_true (by kernel_rfl)
          conv => whnf
          have hc16 := h16.c hC hW kept_ge hG
          repeat' (first | (refine brd_t (by first | assumption | omega) ?_; conv => whnf) | (refine brd_f (by first | assumption | omega) ?_; conv => whnf) | (refine ask (by first | assumption | omega) ?_; conv => whnf) | (refine fit64 (by omega) ?_; conv => whnf) | (refine fit (by simp only [kmin, kmax]; omega) ?_; conv => whnf) | (refine br_t (by assumption) ?_; conv => whnf) | (refine br_f (by assumption) ?_; conv => whnf) | (refine get_of (by assumption) ?_; conv => whnf) | (refine get_map (by assumption) ?_; conv => whnf) | (refine call_eq (hch) hC hasBody_59 ?_ ?_ ?_; kernel_rfl; kernel_rfl; conv => whnf) | (refine callq_eq (hch) hC hasBody_59 ?_ ?_ ?_; kernel_rfl; kernel_rfl; conv => whnf) | (refine callc_eq (hc16) hC hasBody_60 rfl ?_ ?_ ?_; kernel_rfl; kernel_rfl; conv => whnf) | (refine callcq_eq (hc16) hC hasBody_60 rfl ?_ ?_ ?_; kernel_rfl; kernel_rfl; conv => whnf) | (refine draw_lex hE ?_ ?_; decide +kernel; conv => whnf) | (refine brd (fun h => ?_) (fun h => ?_) <;> conv => whnf) | (refine br (fun h => ?_) (fun h => ?_) <;> conv => whnf) | (refine ret_now hE ?_; conv => whnf) | (intro hlen; conv => whnf) | (refine seg_here ?_; conv => whnf) | (refine both ?_ ?_ <;> conv => whnf))
          all_goals first | exact ⟨rfl, rfl⟩ | (exfalso; omega)
        | some m =>
          have h16 : Fn1G Tryd.prog GE 60 [.str ((c :: r).drop (Int.toNat 1)), .int .i64 16, .int .i64 6] (fun v => v = .tup [.int .i32 (m : Nat), .bool true]) := h16
          refine fn1GE (T := Tryd.tt) Tryd.func34 rfl tt_all follows_all ?_ ?_ fun C hC hW hG hE => ?_
          · kernel_rfl
          · exact Nat.le_of_ble_eq_true (by kernel_rfl)
          conv => whnf
          have hc16 := h16.c hC hW kept_ge hG
          repeat' (first | (refine brd_t (by first | assumption | omega) ?_; conv => whnf) | (refine brd_f (by first | assumption | omega) ?_; conv => whnf) | (refine ask (by first | assumption | omega) ?_; conv => whnf) | (refine fit64 (by omega) ?_; conv => whnf) | (refine fit (by simp only [kmin, kmax]; omega) ?_; conv => whnf) | (refine br_t (by assumption) ?_; conv => whnf) | (refine br_f (by assumption) ?_; conv => whnf) | (refine get_of (by assumption) ?_; conv => whnf) | (refine get_map (by assumption) ?_; conv => whnf) | (refine call_eq (hch) hC hasBody_59 ?_ ?_ ?_; kernel_rfl; kernel_rfl; conv => whnf) | (refine callq_eq (hch) hC hasBody_59 ?_ ?_ ?_; kernel_rfl; kernel_rfl; conv => whnf) | (refine callc_eq (hc16) hC hasBody_60 rfl ?_ ?_ ?_; kernel_rfl; kernel_rfl; conv => whnf) | (refine callcq_eq (hc16) hC hasBody_60 rfl ?_ ?_ ?_; kernel_rfl; kernel_rfl; conv => whnf) | (refine draw_lex hE ?_ ?_; decide +kernel; conv => whnf) | (refine brd (fun h => ?_) (fun h => ?_) <;> conv => whnf) | (refine br (fun h => ?_) (fun h => ?_) <;> conv => whnf) | (refine ret_now hE ?_; conv => whnf) | (intro hlen; conv => whnf) | (refine seg_here ?_; conv => whnf) | (refine both ?_ ?_ <;> conv => whnf))
          all_goals first | exact ⟨rfl, rfl⟩ | (exfalso; omega)
      · have hx2 : ¬ ((c.toNat : Int) = 120) ∧ ¬ ((c.toNat : Int) = 88) := ⟨fun e => hx (.inl (UInt8.toNat_inj.1 (by omega))), fun e => hx (.inr (UInt8.toNat_inj.1 (by omega)))⟩
        obtain ⟨hx3, hx4⟩ := hx2
        rw [if_neg hx]
        have h10 := numbered_10 (c :: r)
        generalize numR 10 7 (c :: r) = o at *
        cases o with
        | none =>
          have h10 : Fn1G Tryd.prog GE 60 [.str (c :: r), .int .i64 10, .int .i64 7] (fun v => v = .tup [.int .i32 0, .bool false]) := h10
          refine fn1GE (T := Tryd.tt) Tryd.func34 rfl tt_all follows_all ?_ ?_ fun C hC hW hG hE => ?_
          · kernel_rfl
          · exact Nat.le_of_ble_eq_true (by kernel_rfl)
          conv => whnf
          have hc10 := h10.c hC hW kept_ge hG
          repeat' (first | (refine brd_t (by first | assumption | omega) ?_; conv => whnf) | (refine brd_f (by first | assumption | omega) ?_; conv => whnf) | (refine ask (by first | assumption | omega) ?_; conv => whnf) | (refine fit64 (by omega) ?_; conv => whnf) | (refine fit (by simp only [kmin, kmax]; omega) ?_; conv => whnf) | (refine br_t (by assumption) ?_; conv => whnf) | (refine br_f (by assumption) ?_; conv => whnf) | (refine get_of (by assumption) ?_; conv => whnf) | (refine get_map (by assumption) ?_; conv => whnf) | (refine call_eq (hch) hC hasBody_59 ?_ ?_ ?_; kernel_rfl; kernel_rfl; conv => whnf) | (refine callq_eq (hch) hC hasBody_59 ?_ ?_ ?_; kernel_rfl; kernel_rfl; conv => whnf) | (refine callc_eq (hc10) hC hasBody_60 rfl ?_ ?_ ?_; kernel_rfl; kernel_rfl; conv => whnf) | (refine callcq_eq (hc10) hC hasBody_60 rfl ?_ ?_ ?_; kernel_rfl; kernel_rfl; conv => whnf) | (refine draw_lex hE ?_ ?_; decide +kernel; conv => whnf) | (refine brd (fun h => ?_) (fun h => ?_) <;> conv => whnf) | (refine br (fun h => ?_) (fun h => ?_) <;> conv => whnf) | (refine ret_now hE ?_; conv => whnf) | (intro hlen; conv => whnf) | (refine seg_here ?_; conv => whnf) | (refine both ?_ ?_ <;> conv => whnf))
          all_goals first | exact ⟨rfl, rfl⟩ | (exfalso; omega)
        | some m =>
          have h10 : Fn1G Tryd.prog GE 60 [.str (c :: r), .int .i64 10, .int .i64 7] (fun v => v = .tup [.int .i32 (m : Nat), .bool true]) := h10
          refine fn1GE (T := Tryd.tt) Tryd.func34 rfl tt_all follows_all ?_ ?_ fun C hC hW hG hE => ?_
          · kernel_rfl
          · exact Nat.le_of_ble_eq_true (by kernel_rfl)
          conv => whnf
          have hc10 := h10.c hC hW kept_ge hG
          repeat' (first | (refine brd_t (by first | assumption | omega) ?_; conv => whnf) | (refine brd_f (by first | assumption | omega) ?_; conv => whnf) | (refine ask (by first | assumption | omega) ?_; conv => whnf) | (refine fit64 (by omega) ?_; conv => whnf) | (refine fit (by simp only [kmin, kmax]; omega) ?_; conv => whnf) | (refine br_t (by assumption) ?_; conv => whnf) | (refine br_f (by assumption) ?_; conv => whnf) | (refine get_of (by assumption) ?_; conv => whnf) | (refine get_map (by assumption) ?_; conv => whnf) | (refine call_eq (hch) hC hasBody_59 ?_ ?_ ?_; kernel_rfl; kernel_rfl; conv => whnf) | (refine callq_eq (hch) hC hasBody_59 ?_ ?_ ?_; kernel_rfl; kernel_rfl; conv => whnf) | (refine callc_eq (hc10) hC hasBody_60 rfl ?_ ?_ ?_; kernel_rfl; kernel_rfl; conv => whnf) | (refine callcq_eq (hc10) hC hasBody_60 rfl ?_ ?_ ?_; kernel_rfl; kernel_rfl; conv => whnf) | (refine draw_lex hE ?_ ?_; decide +kernel; conv => whnf) | (refine brd (fun h => ?_) (fun h => ?_) <;> conv => whnf) | (refine br (fun h => ?_) (fun h => ?_) <;> conv => whnf) | (refine ret_now hE ?_; conv => whnf) | (intro hlen; conv => whnf) | (refine seg_here ?_; conv => whnf) | (refine both ?_ ?_ <;> conv => whnf))
          all_goals first | exact ⟨rfl, rfl⟩ | (exfalso; omega)
end Go.Proofs.YtaeeceabnkgnnaaDoor
