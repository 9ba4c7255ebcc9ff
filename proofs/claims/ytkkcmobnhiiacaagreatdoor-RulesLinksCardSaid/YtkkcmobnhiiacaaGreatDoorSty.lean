/- Styles: what the document's small functions do, and tok.Small, walked. No conditions. -/
import Derived.Test.YtkkcmobnhiiacaaGreatDoorStyLaw
import Derived.Test.YtkkcmobnhiiacaaGreatDoorStyLib
import Derived.Test.YtkkcmobnhiiacaaGreatDoorData
set_option linter.unusedSimpArgs false
set_option linter.unusedVariables false
set_option maxRecDepth 100000
namespace Go.Proofs.YtkkcmobnhiiacaaGreatDoor
open Go.RowKit

/-! ### Spaces -/
theorem u8_ne {c : UInt8} {n : Nat} (hn : n < 256) (h : ¬ c = UInt8.ofNat n) : ¬ c.toNat = n := fun e => h (by
  apply UInt8.toNat_inj.1
  rw [e]
  simp [Nat.mod_eq_of_lt hn])
def spB (c : UInt8) : Bool := [32, 9, 10, 12].contains c
/-! ### Small letters -/
theorem low_toNat (c : UInt8) : (lowB c).toNat = if 65 ≤ c.toNat ∧ c.toNat ≤ 90 then c.toNat + 32 else c.toNat := by
  unfold lowB
  split
  · rw [UInt8.toNat_add]
    show (c.toNat + 32) % 256 = _
    omega
  · rfl
set_option maxHeartbeats 4000000 in
theorem ref_loweredL (s : List UInt8) (hs : s.length ≤ 140737488352000) : Fn1 Tryz.prog 28 [.str s] (fun r => r = .str (smallL s)) := by
  refine fn1E (T := Tryz.tt) Tryz.func28 rfl tt_all follows_all ?_ ?_ fun C hC hE => ?_
  · kernel_rfl
  · exact Nat.le_of_ble_eq_true (by kernel_rfl)
  conv => whnf
  repeat' (first | (refine brd_t (by first | assumption | omega) ?_; conv => whnf) | (refine brd_f (by first | assumption | omega) ?_; conv => whnf) | (refine ask (by first | assumption | omega) ?_; conv => whnf) | (refine fit64 (by omega) ?_; conv => whnf) | (refine fit (by simp only [kmin, kmax]; omega) ?_; conv => whnf) | (refine br_t (by assumption) ?_; conv => whnf) | (refine br_f (by assumption) ?_; conv => whnf) | (refine get_of (by assumption) ?_; conv => whnf) | (refine get_map (by assumption) ?_; conv => whnf) | (refine draw_lex hE ?_ ?_; decide +kernel; conv => whnf) | (refine brd (fun h => ?_) (fun h => ?_) <;> conv => whnf) | (refine br (fun h => ?_) (fun h => ?_) <;> conv => whnf) | (refine ret_now hE ?_; conv => whnf) | (intro hlen; conv => whnf) | (refine seg_here ?_; conv => whnf) | (refine both ?_ ?_ <;> conv => whnf))
  refine loopE (fun i : Nat => ⟨29, [(0, .str s), (3, .str (smallL (s.take i))), (4, .int .i64 i)], []⟩) (fun i => i ≤ s.length) (fun i => s.length - i) 0 hE ?_ ?_ (Nat.zero_le _) ?_
  · kernel_rfl
  · exact at_keep [0, 3, 4] rfl
  intro i hi
  have hsl : (smallL (s.take i)).length ≤ s.length := by simp [smallL]; omega
  by_cases hlt : i < s.length
  · obtain ⟨c, hx⟩ : ∃ c, s[i]? = some c := ⟨_, List.getElem?_eq_getElem hlt⟩
    have hc := c.toNat_lt
    have hlo := low_toNat c
    have hnx : smallL (s.take i) ++ [lowB c] = smallL (s.take (i + 1)) := by
      unfold smallL
      rw [List.take_add_one, hx, List.map_append]
      rfl
    by_cases hr : 65 ≤ c.toNat ∧ c.toNat ≤ 90
    · rw [if_pos hr] at hlo
      have hv : [V.int .u8 ((c.toNat : Int) + 32)] = [lowB c].map byteV := by
        unfold byteV
        rw [List.map_cons, List.map_nil, hlo]
        rfl
      conv => whnf
      repeat' (first | (refine brd_t (by first | assumption | omega) ?_; conv => whnf) | (refine brd_f (by first | assumption | omega) ?_; conv => whnf) | (refine ask (by first | assumption | omega) ?_; conv => whnf) | (refine fit64 (by omega) ?_; conv => whnf) | (refine fit (by simp only [kmin, kmax]; omega) ?_; conv => whnf) | (refine br_t (by assumption) ?_; conv => whnf) | (refine br_f (by assumption) ?_; conv => whnf) | (refine get_of (by assumption) ?_; conv => whnf) | (refine get_map (by assumption) ?_; conv => whnf) | (refine get_of hx ?_; conv => whnf) | (refine ask (Nat.le_refl 1) ?_; refine ⟨[lowB c], hv, Nat.le_of_ble_eq_true rfl, ?_⟩; conv => whnf) | (refine ask ?_ ?_; (show (smallL (s.take i)).length + 1 ≤ _; omega); conv => whnf) | (refine draw_lex hE ?_ ?_; decide +kernel; conv => whnf) | (refine brd (fun h => ?_) (fun h => ?_) <;> conv => whnf) | (refine br (fun h => ?_) (fun h => ?_) <;> conv => whnf) | (refine ret_now hE ?_; conv => whnf) | (intro hlen; conv => whnf) | (refine seg_here ?_; conv => whnf) | (refine both ?_ ?_ <;> conv => whnf))
      all_goals
        rw [hnx]
        exact next_drop [0, 3, 4] [0] (i + 1) hlt (show s.length - (i + 1) < s.length - i by omega) rfl
    · rw [if_neg hr] at hlo
      have hv : [V.int .u8 (c.toNat : Int)] = [lowB c].map byteV := by
        unfold byteV
        rw [List.map_cons, List.map_nil, hlo]
      conv => whnf
      repeat' (first | (refine brd_t (by first | assumption | omega) ?_; conv => whnf) | (refine brd_f (by first | assumption | omega) ?_; conv => whnf) | (refine ask (by first | assumption | omega) ?_; conv => whnf) | (refine fit64 (by omega) ?_; conv => whnf) | (refine fit (by simp only [kmin, kmax]; omega) ?_; conv => whnf) | (refine br_t (by assumption) ?_; conv => whnf) | (refine br_f (by assumption) ?_; conv => whnf) | (refine get_of (by assumption) ?_; conv => whnf) | (refine get_map (by assumption) ?_; conv => whnf) | (refine get_of hx ?_; conv => whnf) | (refine ask (Nat.le_refl 1) ?_; refine ⟨[lowB c], hv, Nat.le_of_ble_eq_true rfl, ?_⟩; conv => whnf) | (refine ask ?_ ?_; (show (smallL (s.take i)).length + 1 ≤ _; omega); conv => whnf) | (refine draw_lex hE ?_ ?_; decide +kernel; conv => whnf) | (refine brd (fun h => ?_) (fun h => ?_) <;> conv => whnf) | (refine br (fun h => ?_) (fun h => ?_) <;> conv => whnf) | (refine ret_now hE ?_; conv => whnf) | (intro hlen; conv => whnf) | (refine seg_here ?_; conv => whnf) | (refine both ?_ ?_ <;> conv => whnf))
      all_goals
        rw [hnx]
        exact next_drop [0, 3, 4] [0] (i + 1) hlt (show s.length - (i + 1) < s.length - i by omega) rfl
  · have hin : i = s.length := by omega
    subst hin
    rw [List.take_length]
    conv => whnf
    repeat' (first | (refine brd_t (by first | assumption | omega) ?_; conv => whnf) | (refine brd_f (by first | assumption | omega) ?_; conv => whnf) | (refine ask (by first | assumption | omega) ?_; conv => whnf) | (refine fit64 (by omega) ?_; conv => whnf) | (refine fit (by simp only [kmin, kmax]; omega) ?_; conv => whnf) | (refine br_t (by assumption) ?_; conv => whnf) | (refine br_f (by assumption) ?_; conv => whnf) | (refine get_of (by assumption) ?_; conv => whnf) | (refine get_map (by assumption) ?_; conv => whnf) | (refine draw_lex hE ?_ ?_; decide +kernel; conv => whnf) | (refine brd (fun h => ?_) (fun h => ?_) <;> conv => whnf) | (refine br (fun h => ?_) (fun h => ?_) <;> conv => whnf) | (refine ret_now hE ?_; conv => whnf) | (intro hlen; conv => whnf) | (refine seg_here ?_; conv => whnf) | (refine both ?_ ?_ <;> conv => whnf))
    all_goals exact ⟨rfl, rfl⟩
theorem ref_lowered (s : List UInt8) (hs : s.length ≤ 1048576) : Fn1 Tryz.prog 28 [.str s] (fun r => r = .str (smallL s)) := ref_loweredL s (by omega)
def smB (s : List UInt8) (i : Nat) : List UInt8 := smallL (s.take i) ++ s.drop i
theorem smB_len {s : List UInt8} {i : Nat} (h : i ≤ s.length) : (smB s i).length = s.length := by simp [smB, smallL]; omega
theorem smB_at {s : List UInt8} {i : Nat} {c : UInt8} (h : s[i]? = some c) : (smB s i)[i]? = some c := by
  have hlt := (List.getElem?_eq_some_iff.1 h).1
  unfold smB
  rw [List.getElem?_append_right (by simp [smallL]; omega)]
  simp [smallL, Nat.min_eq_left (Nat.le_of_lt hlt), h]
theorem smB_step {s : List UInt8} {i : Nat} {c : UInt8} (h : s[i]? = some c) : smB s (i + 1) = (smB s i).set i (lowB c) := by
  have hlt := (List.getElem?_eq_some_iff.1 h).1
  have hd : s.drop i = c :: s.drop (i + 1) := by
    obtain ⟨hl, rfl⟩ := List.getElem?_eq_some_iff.1 h
    exact List.drop_eq_getElem_cons hl
  have hl : (smallL (s.take i)).length = i := by simp [smallL]; omega
  unfold smB
  rw [hd, List.set_append_right _ _ (by omega), hl, Nat.sub_self, List.set_cons_zero]
  unfold smallL
  rw [List.take_add_one, h, List.map_append, List.append_assoc]
  rfl
theorem bytes_nr : ∀ l : List UInt8, nrL (l.map byteV)
  | [] => trivial
  | x :: l => ⟨trivial, bytes_nr l⟩
set_option maxHeartbeats 4000000 in
theorem tok_smallL (s : List UInt8) (hs : s.length ≤ 140737488352000) : Fn1 Tryz.prog 22 [.str s] (fun r => r = .str (smallL s)) := by
  refine fn1E (T := Tryz.tt) Tryz.func22 rfl tt_all follows_all ?_ ?_ fun C hC hE => ?_
  · kernel_rfl
  · exact Nat.le_of_ble_eq_true (by kernel_rfl)
  conv => whnf
  repeat' (first | (refine brd_t (by first | assumption | omega) ?_; conv => whnf) | (refine brd_f (by first | assumption | omega) ?_; conv => whnf) | (refine ask (by first | assumption | omega) ?_; conv => whnf) | (refine fit64 (by omega) ?_; conv => whnf) | (refine fit (by simp only [kmin, kmax]; omega) ?_; conv => whnf) | (refine br_t (by assumption) ?_; conv => whnf) | (refine br_f (by assumption) ?_; conv => whnf) | (refine get_of (by assumption) ?_; conv => whnf) | (refine get_map (by assumption) ?_; conv => whnf) | (refine draw_lex hE ?_ ?_; decide +kernel; conv => whnf) | (refine brd (fun h => ?_) (fun h => ?_) <;> conv => whnf) | (refine br (fun h => ?_) (fun h => ?_) <;> conv => whnf) | (refine ret_now hE ?_; conv => whnf) | (intro hlen; conv => whnf) | (refine seg_here ?_; conv => whnf) | (refine both ?_ ?_ <;> conv => whnf))
  refine loopE (fun i : Nat => ⟨30, [(3, .sl 0 0 s.length), (8, .sl 0 0 s.length), (9, .int .i64 s.length), (10, .int .i64 i)], [some (.row 1 ((smB s i).map byteV))]⟩) (fun i => i ≤ s.length) (fun i => s.length - i) 0 hE ?_ ?_ (Nat.zero_le _) ?_
  · kernel_rfl
  · exact at_keep [3, 8, 9, 10] rfl
  intro i hi
  have hsl := smB_len hi
  have hsm : ((smB s i).map byteV).length = s.length := by rw [List.length_map, hsl]
  by_cases hlt : i < s.length
  · obtain ⟨c, hx⟩ : ∃ c, s[i]? = some c := ⟨_, List.getElem?_eq_getElem hlt⟩
    have hc := c.toNat_lt
    have hlo := low_toNat c
    have hjz : 0 + ((i : Int)).toNat = i := by omega
    have hg : ((smB s i).map byteV)[0 + ((i : Int)).toNat]? = some (.int .u8 c.toNat) := by rw [hjz, List.getElem?_map, smB_at hx]; rfl
    have hst := smB_step hx
    by_cases hr : 65 ≤ c.toNat ∧ c.toNat ≤ 90
    · rw [if_pos hr] at hlo
      have hv : ((smB s i).map byteV).set (0 + ((i : Int)).toNat) (V.int .u8 ((c.toNat : Int) + 97 - 65)) = (smB s (i + 1)).map byteV := by
        rw [hjz, hst, List.map_set]
        unfold byteV
        rw [hlo]
        congr 2
        omega
      conv => whnf
      repeat' (first | (refine brd_t (by first | assumption | omega) ?_; conv => whnf) | (refine brd_f (by first | assumption | omega) ?_; conv => whnf) | (refine ask (by first | assumption | omega) ?_; conv => whnf) | (refine fit64 (by omega) ?_; conv => whnf) | (refine fit (by simp only [kmin, kmax]; omega) ?_; conv => whnf) | (refine br_t (by assumption) ?_; conv => whnf) | (refine br_f (by assumption) ?_; conv => whnf) | (refine get_of (by assumption) ?_; conv => whnf) | (refine get_map (by assumption) ?_; conv => whnf) | (refine get_of hg ?_; conv => whnf) | (refine draw_lex hE ?_ ?_; decide +kernel; conv => whnf) | (refine brd (fun h => ?_) (fun h => ?_) <;> conv => whnf) | (refine br (fun h => ?_) (fun h => ?_) <;> conv => whnf) | (refine ret_now hE ?_; conv => whnf) | (intro hlen; conv => whnf) | (refine seg_here ?_; conv => whnf) | (refine both ?_ ?_ <;> conv => whnf))
      refine next_keep [3, 8, 9, 10] (i + 1) hlt (show s.length - (i + 1) < s.length - i by omega) ?_
      conv => whnf
      rw [hv]
      rfl
    · rw [if_neg hr] at hlo
      have he : smB s (i + 1) = smB s i := by
        rw [hst, show lowB c = c from UInt8.toNat_inj.1 hlo]
        obtain ⟨hl, hq⟩ := List.getElem?_eq_some_iff.1 (smB_at hx)
        rw [← hq]
        exact List.set_getElem_self hl
      conv => whnf
      repeat' (first | (refine brd_t (by first | assumption | omega) ?_; conv => whnf) | (refine brd_f (by first | assumption | omega) ?_; conv => whnf) | (refine ask (by first | assumption | omega) ?_; conv => whnf) | (refine fit64 (by omega) ?_; conv => whnf) | (refine fit (by simp only [kmin, kmax]; omega) ?_; conv => whnf) | (refine br_t (by assumption) ?_; conv => whnf) | (refine br_f (by assumption) ?_; conv => whnf) | (refine get_of (by assumption) ?_; conv => whnf) | (refine get_map (by assumption) ?_; conv => whnf) | (refine get_of hg ?_; conv => whnf) | (refine draw_lex hE ?_ ?_; decide +kernel; conv => whnf) | (refine brd (fun h => ?_) (fun h => ?_) <;> conv => whnf) | (refine br (fun h => ?_) (fun h => ?_) <;> conv => whnf) | (refine ret_now hE ?_; conv => whnf) | (intro hlen; conv => whnf) | (refine seg_here ?_; conv => whnf) | (refine both ?_ ?_ <;> conv => whnf))
      all_goals
        refine next_keep [3, 8, 9, 10] (i + 1) hlt (show s.length - (i + 1) < s.length - i by omega) ?_
        conv => whnf
        rw [he]
        rfl
  · have hin : i = s.length := by omega
    subst hin
    have he : smB s s.length = smallL s := by unfold smB; rw [List.take_length, List.drop_length, List.append_nil]
    have hv : List.take s.length (List.drop 0 ((smB s s.length).map byteV)) = (smallL s).map byteV := by
      rw [List.drop_zero, List.take_of_length_le (by omega), he]
    have hq : (smallL s).length ≤ 9223372036854775807 := by simp [smallL]; omega
    conv => whnf
    repeat' (first | (refine brd_t (by first | assumption | omega) ?_; conv => whnf) | (refine brd_f (by first | assumption | omega) ?_; conv => whnf) | (refine ask (by first | assumption | omega) ?_; conv => whnf) | (refine fit64 (by omega) ?_; conv => whnf) | (refine fit (by simp only [kmin, kmax]; omega) ?_; conv => whnf) | (refine br_t (by assumption) ?_; conv => whnf) | (refine br_f (by assumption) ?_; conv => whnf) | (refine get_of (by assumption) ?_; conv => whnf) | (refine get_map (by assumption) ?_; conv => whnf) | (refine ⟨smallL s, hv, hq, ?_⟩; conv => whnf) | (refine draw_lex hE ?_ ?_; decide +kernel; conv => whnf) | (refine brd (fun h => ?_) (fun h => ?_) <;> conv => whnf) | (refine br (fun h => ?_) (fun h => ?_) <;> conv => whnf) | (refine ret_now hE ?_; conv => whnf) | (intro hlen; conv => whnf) | (refine seg_here ?_; conv => whnf) | (refine both ?_ ?_ <;> conv => whnf))
    all_goals exact ⟨rfl, rfl⟩
theorem tok_small (s : List UInt8) (hs : s.length ≤ 1048576) : Fn1 Tryz.prog 22 [.str s] (fun r => r = .str (smallL s)) := tok_smallL s (by omega)
end Go.Proofs.YtkkcmobnhiiacaaGreatDoor
