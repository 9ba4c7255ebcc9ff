/- The document's UrlStrip, walked. No conditions. -/
import Derived.Test.YtkkcmobnhiiacaaGreatDoorStyB
set_option linter.unusedSimpArgs false
set_option linter.unusedVariables false
set_option maxRecDepth 100000
namespace Go.Proofs.YtkkcmobnhiiacaaGreatDoor
open Go.RowKit

def lowC (c : UInt8) : Bool := decide (c.toNat ≤ 32)
def dropC (c : UInt8) : Bool := !(decide (c = 9) || decide (c = 10) || decide (c = 13))
/-- What is left: trimmed of what is at most a space, and without tabs and line ends. -/
def urlS (s : List UInt8) : List UInt8 := (trR lowC (s.dropWhile lowC)).filter dropC
set_option maxHeartbeats 8000000 in
theorem url_strip (s : List UInt8) (hs : s.length ≤ 140737488352000) : Fn1 Tryz.prog 25 [.str s] (fun r => r = .str (urlS s)) := by
  refine fn1E (T := Tryz.tt) Tryz.func25 rfl tt_all follows_all ?_ ?_ fun C hC hE => ?_
  · kernel_rfl
  · exact Nat.le_of_ble_eq_true (by kernel_rfl)
  conv => whnf
  repeat' (first | (refine brd_t (by first | assumption | omega) ?_; conv => whnf) | (refine brd_f (by first | assumption | omega) ?_; conv => whnf) | (refine ask (by first | assumption | omega) ?_; conv => whnf) | (refine fit64 (by omega) ?_; conv => whnf) | (refine fit (by simp only [kmin, kmax]; omega) ?_; conv => whnf) | (refine br_t (by assumption) ?_; conv => whnf) | (refine br_f (by assumption) ?_; conv => whnf) | (refine get_of (by assumption) ?_; conv => whnf) | (refine get_map (by assumption) ?_; conv => whnf) | (refine draw_lex hE ?_ ?_; decide +kernel; conv => whnf) | (refine brd (fun h => ?_) (fun h => ?_) <;> conv => whnf) | (refine br (fun h => ?_) (fun h => ?_) <;> conv => whnf) | (refine ret_now hE ?_; conv => whnf) | (intro hlen; conv => whnf) | (refine seg_here ?_; conv => whnf) | (refine both ?_ ?_ <;> conv => whnf))
  refine loopE (fun t : List UInt8 => ⟨61, [(0, .str t)], []⟩) (fun t => t.length ≤ s.length ∧ t.dropWhile lowC = s.dropWhile lowC) (fun t => t.length) s hE ?_ ?_ ⟨Nat.le_refl _, rfl⟩ ?_
  · kernel_rfl
  · exact at_keep [0] rfl
  rintro t ⟨ht, hI⟩
  have ht : t.length ≤ s.length := ht
  have hI : t.dropWhile lowC = s.dropWhile lowC := hI
  by_cases hgo : ∃ c r, t = c :: r ∧ lowC c = true
  · obtain ⟨c, r, rfl, hc⟩ := hgo
    have hcl : (c.toNat : Int) ≤ 32 := by unfold lowC at hc; have := of_decide_eq_true hc; omega
    have hn0 : Int.toNat 0 < (c :: r).length := by simp
    have hn1 : Int.toNat 1 ≤ (c :: r).length := by simp
    have hpos : 0 < (c :: r).length := by simp
    rw [List.dropWhile_cons, if_pos hc] at hI
    conv => whnf
    repeat' (first | (refine brd_t (by first | assumption | omega) ?_; conv => whnf) | (refine brd_f (by first | assumption | omega) ?_; conv => whnf) | (refine ask (by first | assumption | omega) ?_; conv => whnf) | (refine fit64 (by omega) ?_; conv => whnf) | (refine fit (by simp only [kmin, kmax]; omega) ?_; conv => whnf) | (refine br_t (by assumption) ?_; conv => whnf) | (refine br_f (by assumption) ?_; conv => whnf) | (refine get_of (by assumption) ?_; conv => whnf) | (refine get_map (by assumption) ?_; conv => whnf) | (refine draw_lex hE ?_ ?_; decide +kernel; conv => whnf) | (refine brd (fun h => ?_) (fun h => ?_) <;> conv => whnf) | (refine br (fun h => ?_) (fun h => ?_) <;> conv => whnf) | (refine ret_now hE ?_; conv => whnf) | (intro hlen; conv => whnf) | (refine seg_here ?_; conv => whnf) | (refine both ?_ ?_ <;> conv => whnf))
    all_goals exact next_keep [0] r ⟨by simp at ht; show r.length ≤ _; omega, hI⟩ (show r.length < (c :: r).length by simp) rfl
  · cases t with
   | nil =>
    have hst : s.dropWhile lowC = [] := hI.symm
    have hz : ([] : List UInt8).length = 0 := rfl
    conv => whnf
    repeat' (first | (refine brd_t (by first | assumption | omega) ?_; conv => whnf) | (refine brd_f (by first | assumption | omega) ?_; conv => whnf) | (refine ask (by first | assumption | omega) ?_; conv => whnf) | (refine fit64 (by omega) ?_; conv => whnf) | (refine fit (by simp only [kmin, kmax]; omega) ?_; conv => whnf) | (refine br_t (by assumption) ?_; conv => whnf) | (refine br_f (by assumption) ?_; conv => whnf) | (refine get_of (by assumption) ?_; conv => whnf) | (refine get_map (by assumption) ?_; conv => whnf) | (refine draw_lex hE ?_ ?_; decide +kernel; conv => whnf) | (refine brd (fun h => ?_) (fun h => ?_) <;> conv => whnf) | (refine br (fun h => ?_) (fun h => ?_) <;> conv => whnf) | (refine ret_now hE ?_; conv => whnf) | (intro hlen; conv => whnf) | (refine seg_here ?_; conv => whnf) | (refine both ?_ ?_ <;> conv => whnf))
    all_goals
      refine loopE (fun u : List UInt8 => ⟨61, [(0, .str u)], []⟩) (fun u => u.length ≤ s.length ∧ trR lowC u = trR lowC ([])) (fun u => u.length) ([]) hE ?_ ?_ ⟨ht, rfl⟩ ?_
      · kernel_rfl
      · exact at_keep [0] rfl
      rintro u ⟨hu, hU⟩
      have hu : u.length ≤ s.length := hu
      have hU : trR lowC u = trR lowC ([]) := hU
      have hF : urlS s = (trR lowC u).filter dropC := by unfold urlS; rw [hst, hU]
      rcases eq_nil_snoc u with rfl | ⟨v, d, rfl⟩
      · have hz : ([] : List UInt8).length = 0 := rfl
        have hF : urlS s = [] := hF
        rw [hF]
        conv => whnf
        repeat' (first | (refine brd_t (by first | assumption | omega) ?_; conv => whnf) | (refine brd_f (by first | assumption | omega) ?_; conv => whnf) | (refine ask (by first | assumption | omega) ?_; conv => whnf) | (refine fit64 (by omega) ?_; conv => whnf) | (refine fit (by simp only [kmin, kmax]; omega) ?_; conv => whnf) | (refine br_t (by assumption) ?_; conv => whnf) | (refine br_f (by assumption) ?_; conv => whnf) | (refine get_of (by assumption) ?_; conv => whnf) | (refine get_map (by assumption) ?_; conv => whnf) | (refine draw_lex hE ?_ ?_; decide +kernel; conv => whnf) | (refine brd (fun h => ?_) (fun h => ?_) <;> conv => whnf) | (refine br (fun h => ?_) (fun h => ?_) <;> conv => whnf) | (refine ret_now hE ?_; conv => whnf) | (intro hlen; conv => whnf) | (refine seg_here ?_; conv => whnf) | (refine both ?_ ?_ <;> conv => whnf))
        refine loopE (fun _ : Nat => ⟨61, [(0, .str []), (3, .str []), (4, .int .i64 0)], []⟩) (fun _ => True) (fun _ => 0) 0 hE ?_ ?_ trivial ?_
        · kernel_rfl
        · exact at_keep [0, 3, 4] rfl
        intro _ _
        conv => whnf
        repeat' (first | (refine brd_t (by first | assumption | omega) ?_; conv => whnf) | (refine brd_f (by first | assumption | omega) ?_; conv => whnf) | (refine ask (by first | assumption | omega) ?_; conv => whnf) | (refine fit64 (by omega) ?_; conv => whnf) | (refine fit (by simp only [kmin, kmax]; omega) ?_; conv => whnf) | (refine br_t (by assumption) ?_; conv => whnf) | (refine br_f (by assumption) ?_; conv => whnf) | (refine get_of (by assumption) ?_; conv => whnf) | (refine get_map (by assumption) ?_; conv => whnf) | (refine draw_lex hE ?_ ?_; decide +kernel; conv => whnf) | (refine brd (fun h => ?_) (fun h => ?_) <;> conv => whnf) | (refine br (fun h => ?_) (fun h => ?_) <;> conv => whnf) | (refine ret_now hE ?_; conv => whnf) | (intro hlen; conv => whnf) | (refine seg_here ?_; conv => whnf) | (refine both ?_ ?_ <;> conv => whnf))
        all_goals exact ⟨rfl, rfl⟩
      · have hvl : (v ++ [d]).length = v.length + 1 := by simp
        have hgd : (v ++ [d])[(((v ++ [d]).length : Nat) - 1 : Int).toNat]? = some d := by
          rw [hvl, show (((v.length + 1 : Nat) : Int) - 1).toNat = v.length by omega, List.getElem?_append_right (Nat.le_refl _), Nat.sub_self]
          rfl
        have hcd : (v ++ [d]).take (((v ++ [d]).length : Nat) - 1 : Int).toNat = v := by
          rw [hvl, show (((v.length + 1 : Nat) : Int) - 1).toNat = v.length by omega, List.take_left']
          rfl
        have hsn := trR_snoc lowC v d
        by_cases hd : d.toNat ≤ 32
        · have hlc : lowC d = true := decide_eq_true hd
          rw [if_pos hlc] at hsn
          conv => whnf
          repeat' (first | (refine brd_t (by first | assumption | omega) ?_; conv => whnf) | (refine brd_f (by first | assumption | omega) ?_; conv => whnf) | (refine ask (by first | assumption | omega) ?_; conv => whnf) | (refine fit64 (by omega) ?_; conv => whnf) | (refine fit (by simp only [kmin, kmax]; omega) ?_; conv => whnf) | (refine br_t (by assumption) ?_; conv => whnf) | (refine br_f (by assumption) ?_; conv => whnf) | (refine get_of (by assumption) ?_; conv => whnf) | (refine get_map (by assumption) ?_; conv => whnf) | (refine get_of hgd ?_; conv => whnf) | (refine draw_lex hE ?_ ?_; decide +kernel; conv => whnf) | (refine brd (fun h => ?_) (fun h => ?_) <;> conv => whnf) | (refine br (fun h => ?_) (fun h => ?_) <;> conv => whnf) | (refine ret_now hE ?_; conv => whnf) | (intro hlen; conv => whnf) | (refine seg_here ?_; conv => whnf) | (refine both ?_ ?_ <;> conv => whnf))
          refine next_keep [0] v ⟨by show v.length ≤ s.length; omega, by show trR lowC v = _; exact hsn.symm.trans hU⟩ (show v.length < (v ++ [d]).length by omega) ?_
          conv => whnf
          rw [hcd]
        · have hlc : ¬ (lowC d = true) := fun e => hd (of_decide_eq_true e)
          rw [if_neg hlc] at hsn
          rw [hsn] at hF
          generalize hT3 : v ++ [d] = T at *
          conv => whnf
          repeat' (first | (refine brd_t (by first | assumption | omega) ?_; conv => whnf) | (refine brd_f (by first | assumption | omega) ?_; conv => whnf) | (refine ask (by first | assumption | omega) ?_; conv => whnf) | (refine fit64 (by omega) ?_; conv => whnf) | (refine fit (by simp only [kmin, kmax]; omega) ?_; conv => whnf) | (refine br_t (by assumption) ?_; conv => whnf) | (refine br_f (by assumption) ?_; conv => whnf) | (refine get_of (by assumption) ?_; conv => whnf) | (refine get_map (by assumption) ?_; conv => whnf) | (refine get_of hgd ?_; conv => whnf) | (refine draw_lex hE ?_ ?_; decide +kernel; conv => whnf) | (refine brd (fun h => ?_) (fun h => ?_) <;> conv => whnf) | (refine br (fun h => ?_) (fun h => ?_) <;> conv => whnf) | (refine ret_now hE ?_; conv => whnf) | (intro hlen; conv => whnf) | (refine seg_here ?_; conv => whnf) | (refine both ?_ ?_ <;> conv => whnf))
          refine loopE (fun ((k, out) : Nat × List UInt8) => ⟨61, [(0, .str T), (3, .str out), (4, .int .i64 k)], []⟩) (fun (k, out) => k ≤ T.length ∧ out.length ≤ k ∧ out ++ (T.drop k).filter dropC = urlS s) (fun (k, _) => T.length - k) (0, []) hE ?_ ?_ ⟨Nat.zero_le _, Nat.zero_le _, hF.symm⟩ ?_
          · kernel_rfl
          · exact at_keep [0, 3, 4] rfl
          rintro ⟨k, out⟩ ⟨hk, ho, hI3⟩
          have ho : out.length ≤ k := ho
          have hI3 : out ++ (T.drop k).filter dropC = urlS s := hI3
          by_cases hlt : k < T.length
          · obtain ⟨c, hx⟩ : ∃ c, T[k]? = some c := ⟨_, List.getElem?_eq_getElem hlt⟩
            have hdc : T.drop k = c :: T.drop (k + 1) := by
              obtain ⟨h1, rfl⟩ := List.getElem?_eq_some_iff.1 hx
              exact List.drop_eq_getElem_cons h1
            have hcut : (T.take ((k : Int) + 1).toNat).drop ((k : Int)).toNat = [c] := by
              rw [show ((k : Int) + 1).toNat = k + 1 by omega, show ((k : Int)).toNat = k by omega, List.drop_take, hdc, show k + 1 - k = 1 by omega]
              rfl
            have h9 : c = 9 ↔ (c.toNat : Int) = 9 := ⟨fun e => by rw [e]; rfl, fun e => UInt8.toNat_inj.1 (by have : (9 : UInt8).toNat = 9 := rfl; omega)⟩
            have h10 : c = 10 ↔ (c.toNat : Int) = 10 := ⟨fun e => by rw [e]; rfl, fun e => UInt8.toNat_inj.1 (by have : (10 : UInt8).toNat = 10 := rfl; omega)⟩
            have h13 : c = 13 ↔ (c.toNat : Int) = 13 := ⟨fun e => by rw [e]; rfl, fun e => UInt8.toNat_inj.1 (by have : (13 : UInt8).toNat = 13 := rfl; omega)⟩
            rw [hdc] at hI3
            by_cases hdr : c = 9 ∨ c = 10 ∨ c = 13
            · have hd0 : ¬ (dropC c = true) := by unfold dropC; rcases hdr with rfl | rfl | rfl <;> decide
              rw [List.filter_cons, if_neg hd0] at hI3
              have h3 : (c.toNat : Int) = 9 ∨ (c.toNat : Int) = 10 ∨ (c.toNat : Int) = 13 := by rw [← h9, ← h10, ← h13]; exact hdr
              conv => whnf
              repeat' (first | (refine brd_t (by first | assumption | omega) ?_; conv => whnf) | (refine brd_f (by first | assumption | omega) ?_; conv => whnf) | (refine ask (by first | assumption | omega) ?_; conv => whnf) | (refine fit64 (by omega) ?_; conv => whnf) | (refine fit (by simp only [kmin, kmax]; omega) ?_; conv => whnf) | (refine br_t (by assumption) ?_; conv => whnf) | (refine br_f (by assumption) ?_; conv => whnf) | (refine get_of (by assumption) ?_; conv => whnf) | (refine get_map (by assumption) ?_; conv => whnf) | (refine draw_lex hE ?_ ?_; decide +kernel; conv => whnf) | (refine brd (fun h => ?_) (fun h => ?_) <;> conv => whnf) | (refine br (fun h => ?_) (fun h => ?_) <;> conv => whnf) | (refine ret_now hE ?_; conv => whnf) | (intro hlen; conv => whnf) | (refine seg_here ?_; conv => whnf) | (refine both ?_ ?_ <;> conv => whnf))
              all_goals first
                | exact next_keep [0, 3, 4] (k + 1, out) ⟨hlt, by show out.length ≤ k + 1; omega, hI3⟩ (show T.length - (k + 1) < T.length - k by omega) rfl
                | (exfalso; omega)
            · have hd1 : dropC c = true := by unfold dropC; simp; exact ⟨⟨fun e => hdr (.inl e), fun e => hdr (.inr (.inl e))⟩, fun e => hdr (.inr (.inr e))⟩
              rw [List.filter_cons, if_pos hd1] at hI3
              have n9 : ¬ (c.toNat : Int) = 9 := fun e => hdr (.inl (h9.2 e))
              have n10 : ¬ (c.toNat : Int) = 10 := fun e => hdr (.inr (.inl (h10.2 e)))
              have n13 : ¬ (c.toNat : Int) = 13 := fun e => hdr (.inr (.inr (h13.2 e)))
              conv => whnf
              repeat' (first | (refine brd_t (by first | assumption | omega) ?_; conv => whnf) | (refine brd_f (by first | assumption | omega) ?_; conv => whnf) | (refine ask (by first | assumption | omega) ?_; conv => whnf) | (refine fit64 (by omega) ?_; conv => whnf) | (refine fit (by simp only [kmin, kmax]; omega) ?_; conv => whnf) | (refine br_t (by assumption) ?_; conv => whnf) | (refine br_f (by assumption) ?_; conv => whnf) | (refine get_of (by assumption) ?_; conv => whnf) | (refine get_map (by assumption) ?_; conv => whnf) | (rw [hcut]; conv => whnf) | (refine ask (show out.length + 1 ≤ _ by omega) ?_; conv => whnf) | (refine draw_lex hE ?_ ?_; decide +kernel; conv => whnf) | (refine brd (fun h => ?_) (fun h => ?_) <;> conv => whnf) | (refine br (fun h => ?_) (fun h => ?_) <;> conv => whnf) | (refine ret_now hE ?_; conv => whnf) | (intro hlen; conv => whnf) | (refine seg_here ?_; conv => whnf) | (refine both ?_ ?_ <;> conv => whnf))
              all_goals exact next_keep [0, 3, 4] (k + 1, out ++ [c]) ⟨hlt, by show (out ++ [c]).length ≤ k + 1; rw [List.length_append, List.length_singleton]; omega, by show (out ++ [c]) ++ _ = _; rw [← hI3]; simp⟩ (show T.length - (k + 1) < T.length - k by omega) rfl
          · have hke : k = T.length := by omega
            subst hke
            rw [List.drop_length, List.filter_nil, List.append_nil] at hI3
            conv => whnf
            repeat' (first | (refine brd_t (by first | assumption | omega) ?_; conv => whnf) | (refine brd_f (by first | assumption | omega) ?_; conv => whnf) | (refine ask (by first | assumption | omega) ?_; conv => whnf) | (refine fit64 (by omega) ?_; conv => whnf) | (refine fit (by simp only [kmin, kmax]; omega) ?_; conv => whnf) | (refine br_t (by assumption) ?_; conv => whnf) | (refine br_f (by assumption) ?_; conv => whnf) | (refine get_of (by assumption) ?_; conv => whnf) | (refine get_map (by assumption) ?_; conv => whnf) | (refine draw_lex hE ?_ ?_; decide +kernel; conv => whnf) | (refine brd (fun h => ?_) (fun h => ?_) <;> conv => whnf) | (refine br (fun h => ?_) (fun h => ?_) <;> conv => whnf) | (refine ret_now hE ?_; conv => whnf) | (intro hlen; conv => whnf) | (refine seg_here ?_; conv => whnf) | (refine both ?_ ?_ <;> conv => whnf))
            all_goals exact ⟨rfl, by rw [hI3]⟩
   | cons c r =>
    have hlc0 : ¬ (lowC c = true) := fun e => hgo ⟨c, r, rfl, e⟩
    have hst : s.dropWhile lowC = c :: r := by rw [← hI, List.dropWhile_cons, if_neg hlc0]
    have hcn : ¬ ((c.toNat : Int) ≤ 32) := fun h => hlc0 (by unfold lowC; exact decide_eq_true (by omega))
    have hn0 : Int.toNat 0 < (c :: r).length := by simp
    have hpos : 0 < (c :: r).length := by simp
    clear hgo
    conv => whnf
    repeat' (first | (refine brd_t (by first | assumption | omega) ?_; conv => whnf) | (refine brd_f (by first | assumption | omega) ?_; conv => whnf) | (refine ask (by first | assumption | omega) ?_; conv => whnf) | (refine fit64 (by omega) ?_; conv => whnf) | (refine fit (by simp only [kmin, kmax]; omega) ?_; conv => whnf) | (refine br_t (by assumption) ?_; conv => whnf) | (refine br_f (by assumption) ?_; conv => whnf) | (refine get_of (by assumption) ?_; conv => whnf) | (refine get_map (by assumption) ?_; conv => whnf) | (refine draw_lex hE ?_ ?_; decide +kernel; conv => whnf) | (refine brd (fun h => ?_) (fun h => ?_) <;> conv => whnf) | (refine br (fun h => ?_) (fun h => ?_) <;> conv => whnf) | (refine ret_now hE ?_; conv => whnf) | (intro hlen; conv => whnf) | (refine seg_here ?_; conv => whnf) | (refine both ?_ ?_ <;> conv => whnf))
    all_goals
      refine loopE (fun u : List UInt8 => ⟨61, [(0, .str u)], []⟩) (fun u => u.length ≤ s.length ∧ trR lowC u = trR lowC (c :: r)) (fun u => u.length) (c :: r) hE ?_ ?_ ⟨ht, rfl⟩ ?_
      · kernel_rfl
      · exact at_keep [0] rfl
      rintro u ⟨hu, hU⟩
      have hu : u.length ≤ s.length := hu
      have hU : trR lowC u = trR lowC (c :: r) := hU
      have hF : urlS s = (trR lowC u).filter dropC := by unfold urlS; rw [hst, hU]
      rcases eq_nil_snoc u with rfl | ⟨v, d, rfl⟩
      · have hz : ([] : List UInt8).length = 0 := rfl
        have hF : urlS s = [] := hF
        rw [hF]
        conv => whnf
        repeat' (first | (refine brd_t (by first | assumption | omega) ?_; conv => whnf) | (refine brd_f (by first | assumption | omega) ?_; conv => whnf) | (refine ask (by first | assumption | omega) ?_; conv => whnf) | (refine fit64 (by omega) ?_; conv => whnf) | (refine fit (by simp only [kmin, kmax]; omega) ?_; conv => whnf) | (refine br_t (by assumption) ?_; conv => whnf) | (refine br_f (by assumption) ?_; conv => whnf) | (refine get_of (by assumption) ?_; conv => whnf) | (refine get_map (by assumption) ?_; conv => whnf) | (refine draw_lex hE ?_ ?_; decide +kernel; conv => whnf) | (refine brd (fun h => ?_) (fun h => ?_) <;> conv => whnf) | (refine br (fun h => ?_) (fun h => ?_) <;> conv => whnf) | (refine ret_now hE ?_; conv => whnf) | (intro hlen; conv => whnf) | (refine seg_here ?_; conv => whnf) | (refine both ?_ ?_ <;> conv => whnf))
        refine loopE (fun _ : Nat => ⟨61, [(0, .str []), (3, .str []), (4, .int .i64 0)], []⟩) (fun _ => True) (fun _ => 0) 0 hE ?_ ?_ trivial ?_
        · kernel_rfl
        · exact at_keep [0, 3, 4] rfl
        intro _ _
        conv => whnf
        repeat' (first | (refine brd_t (by first | assumption | omega) ?_; conv => whnf) | (refine brd_f (by first | assumption | omega) ?_; conv => whnf) | (refine ask (by first | assumption | omega) ?_; conv => whnf) | (refine fit64 (by omega) ?_; conv => whnf) | (refine fit (by simp only [kmin, kmax]; omega) ?_; conv => whnf) | (refine br_t (by assumption) ?_; conv => whnf) | (refine br_f (by assumption) ?_; conv => whnf) | (refine get_of (by assumption) ?_; conv => whnf) | (refine get_map (by assumption) ?_; conv => whnf) | (refine draw_lex hE ?_ ?_; decide +kernel; conv => whnf) | (refine brd (fun h => ?_) (fun h => ?_) <;> conv => whnf) | (refine br (fun h => ?_) (fun h => ?_) <;> conv => whnf) | (refine ret_now hE ?_; conv => whnf) | (intro hlen; conv => whnf) | (refine seg_here ?_; conv => whnf) | (refine both ?_ ?_ <;> conv => whnf))
        all_goals exact ⟨rfl, rfl⟩
      · have hvl : (v ++ [d]).length = v.length + 1 := by simp
        have hgd : (v ++ [d])[(((v ++ [d]).length : Nat) - 1 : Int).toNat]? = some d := by
          rw [hvl, show (((v.length + 1 : Nat) : Int) - 1).toNat = v.length by omega, List.getElem?_append_right (Nat.le_refl _), Nat.sub_self]
          rfl
        have hcd : (v ++ [d]).take (((v ++ [d]).length : Nat) - 1 : Int).toNat = v := by
          rw [hvl, show (((v.length + 1 : Nat) : Int) - 1).toNat = v.length by omega, List.take_left']
          rfl
        have hsn := trR_snoc lowC v d
        by_cases hd : d.toNat ≤ 32
        · have hlc : lowC d = true := decide_eq_true hd
          rw [if_pos hlc] at hsn
          conv => whnf
          repeat' (first | (refine brd_t (by first | assumption | omega) ?_; conv => whnf) | (refine brd_f (by first | assumption | omega) ?_; conv => whnf) | (refine ask (by first | assumption | omega) ?_; conv => whnf) | (refine fit64 (by omega) ?_; conv => whnf) | (refine fit (by simp only [kmin, kmax]; omega) ?_; conv => whnf) | (refine br_t (by assumption) ?_; conv => whnf) | (refine br_f (by assumption) ?_; conv => whnf) | (refine get_of (by assumption) ?_; conv => whnf) | (refine get_map (by assumption) ?_; conv => whnf) | (refine get_of hgd ?_; conv => whnf) | (refine draw_lex hE ?_ ?_; decide +kernel; conv => whnf) | (refine brd (fun h => ?_) (fun h => ?_) <;> conv => whnf) | (refine br (fun h => ?_) (fun h => ?_) <;> conv => whnf) | (refine ret_now hE ?_; conv => whnf) | (intro hlen; conv => whnf) | (refine seg_here ?_; conv => whnf) | (refine both ?_ ?_ <;> conv => whnf))
          refine next_keep [0] v ⟨by show v.length ≤ s.length; omega, by show trR lowC v = _; exact hsn.symm.trans hU⟩ (show v.length < (v ++ [d]).length by omega) ?_
          conv => whnf
          rw [hcd]
        · have hlc : ¬ (lowC d = true) := fun e => hd (of_decide_eq_true e)
          rw [if_neg hlc] at hsn
          rw [hsn] at hF
          generalize hT3 : v ++ [d] = T at *
          conv => whnf
          repeat' (first | (refine brd_t (by first | assumption | omega) ?_; conv => whnf) | (refine brd_f (by first | assumption | omega) ?_; conv => whnf) | (refine ask (by first | assumption | omega) ?_; conv => whnf) | (refine fit64 (by omega) ?_; conv => whnf) | (refine fit (by simp only [kmin, kmax]; omega) ?_; conv => whnf) | (refine br_t (by assumption) ?_; conv => whnf) | (refine br_f (by assumption) ?_; conv => whnf) | (refine get_of (by assumption) ?_; conv => whnf) | (refine get_map (by assumption) ?_; conv => whnf) | (refine get_of hgd ?_; conv => whnf) | (refine draw_lex hE ?_ ?_; decide +kernel; conv => whnf) | (refine brd (fun h => ?_) (fun h => ?_) <;> conv => whnf) | (refine br (fun h => ?_) (fun h => ?_) <;> conv => whnf) | (refine ret_now hE ?_; conv => whnf) | (intro hlen; conv => whnf) | (refine seg_here ?_; conv => whnf) | (refine both ?_ ?_ <;> conv => whnf))
          refine loopE (fun ((k, out) : Nat × List UInt8) => ⟨61, [(0, .str T), (3, .str out), (4, .int .i64 k)], []⟩) (fun (k, out) => k ≤ T.length ∧ out.length ≤ k ∧ out ++ (T.drop k).filter dropC = urlS s) (fun (k, _) => T.length - k) (0, []) hE ?_ ?_ ⟨Nat.zero_le _, Nat.zero_le _, hF.symm⟩ ?_
          · kernel_rfl
          · exact at_keep [0, 3, 4] rfl
          rintro ⟨k, out⟩ ⟨hk, ho, hI3⟩
          have ho : out.length ≤ k := ho
          have hI3 : out ++ (T.drop k).filter dropC = urlS s := hI3
          by_cases hlt : k < T.length
          · obtain ⟨c, hx⟩ : ∃ c, T[k]? = some c := ⟨_, List.getElem?_eq_getElem hlt⟩
            have hdc : T.drop k = c :: T.drop (k + 1) := by
              obtain ⟨h1, rfl⟩ := List.getElem?_eq_some_iff.1 hx
              exact List.drop_eq_getElem_cons h1
            have hcut : (T.take ((k : Int) + 1).toNat).drop ((k : Int)).toNat = [c] := by
              rw [show ((k : Int) + 1).toNat = k + 1 by omega, show ((k : Int)).toNat = k by omega, List.drop_take, hdc, show k + 1 - k = 1 by omega]
              rfl
            have h9 : c = 9 ↔ (c.toNat : Int) = 9 := ⟨fun e => by rw [e]; rfl, fun e => UInt8.toNat_inj.1 (by have : (9 : UInt8).toNat = 9 := rfl; omega)⟩
            have h10 : c = 10 ↔ (c.toNat : Int) = 10 := ⟨fun e => by rw [e]; rfl, fun e => UInt8.toNat_inj.1 (by have : (10 : UInt8).toNat = 10 := rfl; omega)⟩
            have h13 : c = 13 ↔ (c.toNat : Int) = 13 := ⟨fun e => by rw [e]; rfl, fun e => UInt8.toNat_inj.1 (by have : (13 : UInt8).toNat = 13 := rfl; omega)⟩
            rw [hdc] at hI3
            by_cases hdr : c = 9 ∨ c = 10 ∨ c = 13
            · have hd0 : ¬ (dropC c = true) := by unfold dropC; rcases hdr with rfl | rfl | rfl <;> decide
              rw [List.filter_cons, if_neg hd0] at hI3
              have h3 : (c.toNat : Int) = 9 ∨ (c.toNat : Int) = 10 ∨ (c.toNat : Int) = 13 := by rw [← h9, ← h10, ← h13]; exact hdr
              conv => whnf
              repeat' (first | (refine brd_t (by first | assumption | omega) ?_; conv => whnf) | (refine brd_f (by first | assumption | omega) ?_; conv => whnf) | (refine ask (by first | assumption | omega) ?_; conv => whnf) | (refine fit64 (by omega) ?_; conv => whnf) | (refine fit (by simp only [kmin, kmax]; omega) ?_; conv => whnf) | (refine br_t (by assumption) ?_; conv => whnf) | (refine br_f (by assumption) ?_; conv => whnf) | (refine get_of (by assumption) ?_; conv => whnf) | (refine get_map (by assumption) ?_; conv => whnf) | (refine draw_lex hE ?_ ?_; decide +kernel; conv => whnf) | (refine brd (fun h => ?_) (fun h => ?_) <;> conv => whnf) | (refine br (fun h => ?_) (fun h => ?_) <;> conv => whnf) | (refine ret_now hE ?_; conv => whnf) | (intro hlen; conv => whnf) | (refine seg_here ?_; conv => whnf) | (refine both ?_ ?_ <;> conv => whnf))
              all_goals first
                | exact next_keep [0, 3, 4] (k + 1, out) ⟨hlt, by show out.length ≤ k + 1; omega, hI3⟩ (show T.length - (k + 1) < T.length - k by omega) rfl
                | (exfalso; omega)
            · have hd1 : dropC c = true := by unfold dropC; simp; exact ⟨⟨fun e => hdr (.inl e), fun e => hdr (.inr (.inl e))⟩, fun e => hdr (.inr (.inr e))⟩
              rw [List.filter_cons, if_pos hd1] at hI3
              have n9 : ¬ (c.toNat : Int) = 9 := fun e => hdr (.inl (h9.2 e))
              have n10 : ¬ (c.toNat : Int) = 10 := fun e => hdr (.inr (.inl (h10.2 e)))
              have n13 : ¬ (c.toNat : Int) = 13 := fun e => hdr (.inr (.inr (h13.2 e)))
              conv => whnf
              repeat' (first | (refine brd_t (by first | assumption | omega) ?_; conv => whnf) | (refine brd_f (by first | assumption | omega) ?_; conv => whnf) | (refine ask (by first | assumption | omega) ?_; conv => whnf) | (refine fit64 (by omega) ?_; conv => whnf) | (refine fit (by simp only [kmin, kmax]; omega) ?_; conv => whnf) | (refine br_t (by assumption) ?_; conv => whnf) | (refine br_f (by assumption) ?_; conv => whnf) | (refine get_of (by assumption) ?_; conv => whnf) | (refine get_map (by assumption) ?_; conv => whnf) | (rw [hcut]; conv => whnf) | (refine ask (show out.length + 1 ≤ _ by omega) ?_; conv => whnf) | (refine draw_lex hE ?_ ?_; decide +kernel; conv => whnf) | (refine brd (fun h => ?_) (fun h => ?_) <;> conv => whnf) | (refine br (fun h => ?_) (fun h => ?_) <;> conv => whnf) | (refine ret_now hE ?_; conv => whnf) | (intro hlen; conv => whnf) | (refine seg_here ?_; conv => whnf) | (refine both ?_ ?_ <;> conv => whnf))
              all_goals exact next_keep [0, 3, 4] (k + 1, out ++ [c]) ⟨hlt, by show (out ++ [c]).length ≤ k + 1; rw [List.length_append, List.length_singleton]; omega, by show (out ++ [c]) ++ _ = _; rw [← hI3]; simp⟩ (show T.length - (k + 1) < T.length - k by omega) rfl
          · have hke : k = T.length := by omega
            subst hke
            rw [List.drop_length, List.filter_nil, List.append_nil] at hI3
            conv => whnf
            repeat' (first | (refine brd_t (by first | assumption | omega) ?_; conv => whnf) | (refine brd_f (by first | assumption | omega) ?_; conv => whnf) | (refine ask (by first | assumption | omega) ?_; conv => whnf) | (refine fit64 (by omega) ?_; conv => whnf) | (refine fit (by simp only [kmin, kmax]; omega) ?_; conv => whnf) | (refine br_t (by assumption) ?_; conv => whnf) | (refine br_f (by assumption) ?_; conv => whnf) | (refine get_of (by assumption) ?_; conv => whnf) | (refine get_map (by assumption) ?_; conv => whnf) | (refine draw_lex hE ?_ ?_; decide +kernel; conv => whnf) | (refine brd (fun h => ?_) (fun h => ?_) <;> conv => whnf) | (refine br (fun h => ?_) (fun h => ?_) <;> conv => whnf) | (refine ret_now hE ?_; conv => whnf) | (intro hlen; conv => whnf) | (refine seg_here ?_; conv => whnf) | (refine both ?_ ?_ <;> conv => whnf))
            all_goals exact ⟨rfl, by rw [hI3]⟩
end Go.Proofs.YtkkcmobnhiiacaaGreatDoor
