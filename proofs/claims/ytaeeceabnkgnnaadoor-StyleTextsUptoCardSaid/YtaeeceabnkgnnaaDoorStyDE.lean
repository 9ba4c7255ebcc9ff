/- style.parse and style.Parse, walked. No conditions. -/
import Derived.Test.YtaeeceabnkgnnaaDoorStyC
import Derived.Test.YtaeeceabnkgnnaaDoorNameMay
/-! style.pieces, walked. No conditions. -/
set_option linter.unusedSimpArgs false
set_option linter.unusedVariables false
set_option maxRecDepth 100000
namespace Go.Proofs.YtaeeceabnkgnnaaDoor
open Go.RowKit

theorem now_step {s : List UInt8} {i f : Nat} {c : UInt8} (hx : s[i]? = some c) (hf : f ≤ i) : (s.take (i + 1)).drop f = (s.take i).drop f ++ [c] := by
  have hlt := (List.getElem?_eq_some_iff.1 hx).1
  rw [List.take_add_one, hx, List.drop_append]
  have : f - (s.take i).length = 0 := by rw [List.length_take]; omega
  rw [this]
  rfl
theorem now_fresh (s : List UInt8) (i : Nat) : (s.take (i + 1)).drop (i + 1) = [] := List.drop_eq_nil_of_le (by simp; omega)
theorem nr_strs (l : List (List UInt8)) : nrL (l.map V.str) := by
  induction l with
  | nil => trivial
  | cons x l ih => exact ⟨trivial, ih⟩
theorem str_kill (id : Nat) (l : List (List UInt8)) : killL id (l.map V.str) = l.map V.str := kill_nrL _ (nr_strs l)
theorem str_app (l : List (List UInt8)) (x : List UInt8) : List.take l.length (List.drop 0 (l.map V.str)) ++ List.take 1 (List.drop 0 [V.str x]) = (l ++ [x]).map V.str := by
  rw [List.drop_zero, List.take_of_length_le (by simp), List.map_append]
  rfl
theorem str_app_len (l : List (List UInt8)) (x : List UInt8) : l.length + (List.take 1 (List.drop 0 [V.str x])).length = (l ++ [x]).length := by simp
theorem strs_len (l : List (List UInt8)) : (l.map V.str).length = l.length := by simp
theorem pcsP_nil (q : UInt8) (d : Nat) (now : List UInt8) : pcsP q d now [] = [now] := rfl
set_option maxHeartbeats 16000000 in
theorem style_pieces (s : List UInt8) (hs : s.length ≤ 1048576) : Fn1 Tryd.prog 40 [.str s] (fun r => r = .lst ((pcsP 0 0 [] s).map V.str)) := by
  generalize hR : pcsP 0 0 [] s = R
  refine fn1E (T := Tryd.tt) Tryd.func40 rfl tt_all follows_all ?_ ?_ fun C hC hE => ?_
  · kernel_rfl
  · exact Nat.le_of_ble_eq_true (by kernel_rfl)
  conv => whnf
  repeat' (first | (refine brd_t (by first | assumption | omega) ?_; conv => whnf) | (refine brd_f (by first | assumption | omega) ?_; conv => whnf) | (refine ask (by first | assumption | omega) ?_; conv => whnf) | (refine fit64 (by omega) ?_; conv => whnf) | (refine fit (by simp only [kmin, kmax]; omega) ?_; conv => whnf) | (refine br_t (by assumption) ?_; conv => whnf) | (refine br_f (by assumption) ?_; conv => whnf) | (refine get_of (by assumption) ?_; conv => whnf) | (refine get_map (by assumption) ?_; conv => whnf) | (refine draw_lex hE ?_ ?_; decide +kernel; conv => whnf) | (refine brd (fun h => ?_) (fun h => ?_) <;> conv => whnf) | (refine br (fun h => ?_) (fun h => ?_) <;> conv => whnf) | (refine ret_now hE ?_; conv => whnf) | (intro hlen; conv => whnf) | (refine seg_here ?_; conv => whnf) | (refine both ?_ ?_ <;> conv => whnf))
  refine loopE (fun ((i, q, d, f, out) : Nat × UInt8 × Nat × Nat × List (List UInt8)) => ⟨65, [(0, .str s), (3, .sl 0 0 out.length), (4, .int .i64 (f : Nat)), (5, .int .i64 (d : Nat)), (6, .int .u8 q.toNat), (10, .int .i64 s.length), (11, .int .i64 (i : Nat))], [some (.row 1 (out.map V.str))]⟩)
    (fun (i, q, d, f, out) => i ≤ s.length ∧ f ≤ i ∧ d ≤ i ∧ out.length ≤ i ∧ out ++ pcsP q d ((s.take i).drop f) (s.drop i) = R) (fun (i, _) => s.length - i) (0, 0, 0, 0, []) hE ?_ ?_ ⟨Nat.zero_le _, Nat.le_refl _, Nat.le_refl _, Nat.le_refl _, hR⟩ ?_
  · kernel_rfl
  · exact up_own 3 1 rfl rfl (at_keep [0, 3, 4, 5, 6, 10, 11] rfl)
  rintro ⟨i, q, d, f, out⟩ ⟨hi, hf, hd, ho, hI⟩
  have hi : i ≤ s.length := hi
  have hf : f ≤ i := hf
  have hd : d ≤ i := hd
  have ho : out.length ≤ i := ho
  have hI : out ++ pcsP q d ((s.take i).drop f) (s.drop i) = R := hI
  have hol := strs_len out
  have hif : ((f : Int)).toNat = f := by omega
  have hii : ((i : Int)).toNat = i := by omega
  by_cases hlt : i < s.length
  · obtain ⟨c, hx⟩ : ∃ c, s[i]? = some c := ⟨_, List.getElem?_eq_getElem hlt⟩
    have hc := c.toNat_lt
    have hq := q.toNat_lt
    have hdr : s.drop i = c :: s.drop (i + 1) := by
      obtain ⟨hl, rfl⟩ := List.getElem?_eq_some_iff.1 hx
      exact List.drop_eq_getElem_cons hl
    have hst := now_step hx hf
    rw [hdr, pcsP, ← hst] at hI
    by_cases hq0 : q = 0
    · have hqn : q.toNat = 0 := by rw [hq0]; rfl
      rw [if_neg (by simp [hq0])] at hI
      by_cases c1 : c = 34 ∨ c = 39
      · rw [if_pos c1] at hI
        have hcn : c.toNat = 34 ∨ c.toNat = 39 := by rcases c1 with h | h <;> rw [h] <;> decide
        rcases hcn with hcn | hcn
        all_goals
          conv => whnf
          repeat' (first | (refine brd_t (by first | assumption | omega) ?_; conv => whnf) | (refine brd_f (by first | assumption | omega) ?_; conv => whnf) | (refine ask (by first | assumption | omega) ?_; conv => whnf) | (refine fit64 (by omega) ?_; conv => whnf) | (refine fit (by simp only [kmin, kmax]; omega) ?_; conv => whnf) | (refine br_t (by assumption) ?_; conv => whnf) | (refine br_f (by assumption) ?_; conv => whnf) | (refine get_of (by assumption) ?_; conv => whnf) | (refine get_map (by assumption) ?_; conv => whnf) | (refine get_of hx ?_; conv => whnf) | (refine draw_lex hE ?_ ?_; decide +kernel; conv => whnf) | (refine brd (fun h => ?_) (fun h => ?_) <;> conv => whnf) | (refine br (fun h => ?_) (fun h => ?_) <;> conv => whnf) | (refine ret_now hE ?_; conv => whnf) | (intro hlen; conv => whnf) | (refine seg_here ?_; conv => whnf) | (refine both ?_ ?_ <;> conv => whnf))
          exact next_keep [0, 3, 4, 5, 6, 10, 11] (i + 1, c, d, f, out) ⟨hlt, by omega, by omega, by omega, hI⟩ (show s.length - (i + 1) < s.length - i by omega) rfl
      · rw [if_neg c1] at hI
        have n1 : ¬ c.toNat = 34 := u8_ne (by decide) (fun h => c1 (.inl h))
        have n2 : ¬ c.toNat = 39 := u8_ne (by decide) (fun h => c1 (.inr h))
        by_cases c2 : c = 40
        · rw [if_pos c2] at hI
          have hcn : c.toNat = 40 := by rw [c2]; rfl
          conv => whnf
          repeat' (first | (refine brd_t (by first | assumption | omega) ?_; conv => whnf) | (refine brd_f (by first | assumption | omega) ?_; conv => whnf) | (refine ask (by first | assumption | omega) ?_; conv => whnf) | (refine fit64 (by omega) ?_; conv => whnf) | (refine fit (by simp only [kmin, kmax]; omega) ?_; conv => whnf) | (refine br_t (by assumption) ?_; conv => whnf) | (refine br_f (by assumption) ?_; conv => whnf) | (refine get_of (by assumption) ?_; conv => whnf) | (refine get_map (by assumption) ?_; conv => whnf) | (refine get_of hx ?_; conv => whnf) | (refine draw_lex hE ?_ ?_; decide +kernel; conv => whnf) | (refine brd (fun h => ?_) (fun h => ?_) <;> conv => whnf) | (refine br (fun h => ?_) (fun h => ?_) <;> conv => whnf) | (refine ret_now hE ?_; conv => whnf) | (intro hlen; conv => whnf) | (refine seg_here ?_; conv => whnf) | (refine both ?_ ?_ <;> conv => whnf))
          exact next_keep [0, 3, 4, 5, 6, 10, 11] (i + 1, 0, d + 1, f, out) ⟨hlt, by omega, by omega, by omega, hI⟩ (show s.length - (i + 1) < s.length - i by omega) (by rw [← hq0]; rfl)
        · rw [if_neg c2] at hI
          have n3 : ¬ c.toNat = 40 := u8_ne (by decide) c2
          by_cases c3 : c = 41
          · rw [if_pos c3] at hI
            have hcn : c.toNat = 41 := by rw [c3]; rfl
            have hmax : maxI 0 ((d : Int) - 1) = ((d - 1 : Nat) : Int) := by unfold maxI; split <;> omega
            conv => whnf
            repeat' (first | (refine brd_t (by first | assumption | omega) ?_; conv => whnf) | (refine brd_f (by first | assumption | omega) ?_; conv => whnf) | (refine ask (by first | assumption | omega) ?_; conv => whnf) | (refine fit64 (by omega) ?_; conv => whnf) | (refine fit (by simp only [kmin, kmax]; omega) ?_; conv => whnf) | (refine br_t (by assumption) ?_; conv => whnf) | (refine br_f (by assumption) ?_; conv => whnf) | (refine get_of (by assumption) ?_; conv => whnf) | (refine get_map (by assumption) ?_; conv => whnf) | (refine get_of hx ?_; conv => whnf) | (refine draw_lex hE ?_ ?_; decide +kernel; conv => whnf) | (refine brd (fun h => ?_) (fun h => ?_) <;> conv => whnf) | (refine br (fun h => ?_) (fun h => ?_) <;> conv => whnf) | (refine ret_now hE ?_; conv => whnf) | (intro hlen; conv => whnf) | (refine seg_here ?_; conv => whnf) | (refine both ?_ ?_ <;> conv => whnf))
            refine next_keep [0, 3, 4, 5, 6, 10, 11] (i + 1, 0, d - 1, f, out) ⟨hlt, by omega, by omega, by omega, hI⟩ (show s.length - (i + 1) < s.length - i by omega) ?_
            conv => whnf
            rw [hmax, ← hq0]
            rfl
          · rw [if_neg c3] at hI
            have n4 : ¬ c.toNat = 41 := u8_ne (by decide) c3
            by_cases c4 : c = 59 ∧ d = 0
            · rw [if_pos c4] at hI
              obtain ⟨c4, d0⟩ := c4
              have hcn : c.toNat = 59 := by rw [c4]; rfl
              have hap := str_app out ((s.take ((i : Int)).toNat).drop ((f : Int)).toNat)
              have hal := str_app_len out ((s.take ((i : Int)).toNat).drop ((f : Int)).toNat)
              have hI' : (out ++ [(s.take ((i : Int)).toNat).drop ((f : Int)).toNat]) ++ pcsP 0 0 ((s.take (i + 1)).drop (i + 1)) (s.drop (i + 1)) = R := by
                rw [now_fresh, hif, hii, ← hI]; simp
              conv => whnf
              repeat' (first | (refine brd_t (by first | assumption | omega) ?_; conv => whnf) | (refine brd_f (by first | assumption | omega) ?_; conv => whnf) | (refine ask (by first | assumption | omega) ?_; conv => whnf) | (refine fit64 (by omega) ?_; conv => whnf) | (refine fit (by simp only [kmin, kmax]; omega) ?_; conv => whnf) | (refine br_t (by assumption) ?_; conv => whnf) | (refine br_f (by assumption) ?_; conv => whnf) | (refine get_of (by assumption) ?_; conv => whnf) | (refine get_map (by assumption) ?_; conv => whnf) | (refine get_of hx ?_; conv => whnf) | (refine ask (Nat.le_refl 1) ?_; conv => whnf) | (refine ask ⟨?_, ?_, ?_⟩ ?_; omega; (show _ + 1 ≤ 9223372036854775807; omega); (show (_ + 1) * _ ≤ 140737488355328; omega); conv => whnf) | (refine draw_lex hE ?_ ?_; decide +kernel; conv => whnf) | (refine brd (fun h => ?_) (fun h => ?_) <;> conv => whnf) | (refine br (fun h => ?_) (fun h => ?_) <;> conv => whnf) | (refine ret_now hE ?_; conv => whnf) | (intro hlen; conv => whnf) | (refine seg_here ?_; conv => whnf) | (refine both ?_ ?_ <;> conv => whnf))
              all_goals
                refine next_drop [0, 3, 4, 5, 6, 10, 11] [1] (i + 1, 0, 0, i + 1, out ++ [(s.take ((i : Int)).toNat).drop ((f : Int)).toNat]) ⟨hlt, Nat.le_refl _, Nat.zero_le _, ?_, hI'⟩ (show s.length - (i + 1) < s.length - i by omega) ?_
                · show (out ++ [_]).length ≤ i + 1
                  rw [List.length_append, List.length_singleton]; omega
                · conv => whnf
                  rw [hap, str_kill, str_kill, hal, ← hq0, d0]
                  rfl
            · rw [if_neg c4] at hI
              have hor : ¬ c.toNat = 59 ∨ 0 < d := by
                by_cases h : c = 59
                · exact .inr (Nat.pos_of_ne_zero fun e => c4 ⟨h, e⟩)
                · exact .inl (u8_ne (by decide) h)
              conv => whnf
              repeat' (first | (refine brd_t (by first | assumption | omega) ?_; conv => whnf) | (refine brd_f (by first | assumption | omega) ?_; conv => whnf) | (refine ask (by first | assumption | omega) ?_; conv => whnf) | (refine fit64 (by omega) ?_; conv => whnf) | (refine fit (by simp only [kmin, kmax]; omega) ?_; conv => whnf) | (refine br_t (by assumption) ?_; conv => whnf) | (refine br_f (by assumption) ?_; conv => whnf) | (refine get_of (by assumption) ?_; conv => whnf) | (refine get_map (by assumption) ?_; conv => whnf) | (refine get_of hx ?_; conv => whnf) | (refine draw_lex hE ?_ ?_; decide +kernel; conv => whnf) | (refine brd (fun h => ?_) (fun h => ?_) <;> conv => whnf) | (refine br (fun h => ?_) (fun h => ?_) <;> conv => whnf) | (refine ret_now hE ?_; conv => whnf) | (intro hlen; conv => whnf) | (refine seg_here ?_; conv => whnf) | (refine both ?_ ?_ <;> conv => whnf))
              all_goals first
                | (exfalso; omega)
                | exact next_keep [0, 3, 4, 5, 6, 10, 11] (i + 1, 0, d, f, out) ⟨hlt, by omega, by omega, by omega, hI⟩ (show s.length - (i + 1) < s.length - i by omega) (by rw [← hq0]; rfl)
    · have hqn : ¬ q.toNat = 0 := u8_ne (n := 0) (by decide) hq0
      rw [if_pos (by simpa using hq0)] at hI
      by_cases hcq : c = q
      · rw [if_pos hcq] at hI
        have hcn : (c.toNat : Int) = q.toNat := by rw [hcq]
        conv => whnf
        repeat' (first | (refine brd_t (by first | assumption | omega) ?_; conv => whnf) | (refine brd_f (by first | assumption | omega) ?_; conv => whnf) | (refine ask (by first | assumption | omega) ?_; conv => whnf) | (refine fit64 (by omega) ?_; conv => whnf) | (refine fit (by simp only [kmin, kmax]; omega) ?_; conv => whnf) | (refine br_t (by assumption) ?_; conv => whnf) | (refine br_f (by assumption) ?_; conv => whnf) | (refine get_of (by assumption) ?_; conv => whnf) | (refine get_map (by assumption) ?_; conv => whnf) | (refine get_of hx ?_; conv => whnf) | (refine draw_lex hE ?_ ?_; decide +kernel; conv => whnf) | (refine brd (fun h => ?_) (fun h => ?_) <;> conv => whnf) | (refine br (fun h => ?_) (fun h => ?_) <;> conv => whnf) | (refine ret_now hE ?_; conv => whnf) | (intro hlen; conv => whnf) | (refine seg_here ?_; conv => whnf) | (refine both ?_ ?_ <;> conv => whnf))
        all_goals exact next_keep [0, 3, 4, 5, 6, 10, 11] (i + 1, 0, d, f, out) ⟨hlt, by omega, by omega, by omega, hI⟩ (show s.length - (i + 1) < s.length - i by omega) rfl
      · rw [if_neg hcq] at hI
        have hcn : ¬ (c.toNat : Int) = q.toNat := fun e => hcq (UInt8.toNat_inj.1 (by omega))
        conv => whnf
        repeat' (first | (refine brd_t (by first | assumption | omega) ?_; conv => whnf) | (refine brd_f (by first | assumption | omega) ?_; conv => whnf) | (refine ask (by first | assumption | omega) ?_; conv => whnf) | (refine fit64 (by omega) ?_; conv => whnf) | (refine fit (by simp only [kmin, kmax]; omega) ?_; conv => whnf) | (refine br_t (by assumption) ?_; conv => whnf) | (refine br_f (by assumption) ?_; conv => whnf) | (refine get_of (by assumption) ?_; conv => whnf) | (refine get_map (by assumption) ?_; conv => whnf) | (refine get_of hx ?_; conv => whnf) | (refine draw_lex hE ?_ ?_; decide +kernel; conv => whnf) | (refine brd (fun h => ?_) (fun h => ?_) <;> conv => whnf) | (refine br (fun h => ?_) (fun h => ?_) <;> conv => whnf) | (refine ret_now hE ?_; conv => whnf) | (intro hlen; conv => whnf) | (refine seg_here ?_; conv => whnf) | (refine both ?_ ?_ <;> conv => whnf))
        all_goals exact next_keep [0, 3, 4, 5, 6, 10, 11] (i + 1, q, d, f, out) ⟨hlt, by omega, by omega, by omega, hI⟩ (show s.length - (i + 1) < s.length - i by omega) rfl
  · have hin : i = s.length := by omega
    subst hin
    rw [List.drop_length, pcsP_nil, List.take_length] at hI
    have hap := str_app out (s.drop ((f : Int)).toNat)
    have hal := str_app_len out (s.drop ((f : Int)).toNat)
    rw [hif] at hap hal
    have hK : killL 0 (List.take out.length (List.drop 0 (out.map V.str)) ++ List.take 1 (List.drop 0 [V.str (s.drop ((f : Int)).toNat)])) = (out ++ [s.drop f]).map V.str := by rw [hif, hap, str_kill]
    have hKl : out.length + (List.take 1 (List.drop 0 [V.str (s.drop ((f : Int)).toNat)])).length = ((out ++ [s.drop f]).map V.str).length := by simp
    rw [← hI]
    conv => whnf
    repeat' (first | (refine brd_t (by first | assumption | omega) ?_; conv => whnf) | (refine brd_f (by first | assumption | omega) ?_; conv => whnf) | (refine ask (by first | assumption | omega) ?_; conv => whnf) | (refine fit64 (by omega) ?_; conv => whnf) | (refine fit (by simp only [kmin, kmax]; omega) ?_; conv => whnf) | (refine br_t (by assumption) ?_; conv => whnf) | (refine br_f (by assumption) ?_; conv => whnf) | (refine get_of (by assumption) ?_; conv => whnf) | (refine get_map (by assumption) ?_; conv => whnf) | (refine ask (Nat.le_refl 1) ?_; conv => whnf) | (refine ask ⟨?_, ?_, ?_⟩ ?_; omega; (show _ + 1 ≤ 9223372036854775807; omega); (show (_ + 1) * _ ≤ 140737488355328; omega); conv => whnf) | (refine ret_up (up_frzK 0 2 [] (z := 1) (els := (out ++ [s.drop f]).map V.str) ?_ (nr_strs _) rfl hKl rfl (up_here ?_)); exact congrArg (fun x => some (some (Ob.row 1 x))) hK) | (refine draw_lex hE ?_ ?_; decide +kernel; conv => whnf) | (refine brd (fun h => ?_) (fun h => ?_) <;> conv => whnf) | (refine br (fun h => ?_) (fun h => ?_) <;> conv => whnf) | (refine ret_now hE ?_; conv => whnf) | (intro hlen; conv => whnf) | (refine seg_here ?_; conv => whnf) | (refine both ?_ ?_ <;> conv => whnf))
    all_goals exact ⟨rfl, rfl⟩
end Go.Proofs.YtaeeceabnkgnnaaDoor

/-! style.parse and style.Parse, walked. No conditions. -/
namespace Go.Proofs.YtaeeceabnkgnnaaDoor
open Go.RowKit

abbrev Dc := List UInt8 × List UInt8
def declA (d : Dc) : V := .agg [.str d.1, .str d.2]
theorem nr_decls (l : List Dc) : nrL (l.map declA) := by
  induction l with
  | nil => trivial
  | cons x l ih => exact ⟨⟨trivial, trivial, trivial⟩, ih⟩
theorem decl_kill (id : Nat) (l : List Dc) : killL id (l.map declA) = l.map declA := kill_nrL _ (nr_decls l)
theorem decls_len (l : List Dc) : (l.map declA).length = l.length := by simp
theorem decl_app (l : List Dc) (x : Dc) : List.take l.length (List.drop 0 (l.map declA)) ++ List.take 1 (List.drop 0 [V.agg [.str x.1, .str x.2]]) = (l ++ [x]).map declA := by
  rw [List.drop_zero, List.take_of_length_le (by simp), List.map_append]
  rfl
theorem decl_app_len (l : List Dc) (x : Dc) : l.length + (List.take 1 (List.drop 0 [V.agg [.str x.1, .str x.2]])).length = (l ++ [x]).length := by simp
def tS (s : List UInt8) : List UInt8 := Lib.trimS s [32, 9, 10, 12, 13]
def declOf (p : List UInt8) : Option Dc :=
  if (Lib.cut p [58]).2.2 = true ∧ nameOk (smallL (tS (Lib.cut p [58]).1)) = true ∧ tS (Lib.cut p [58]).2.1 ≠ [] then some (smallL (tS (Lib.cut p [58]).1), tS (Lib.cut p [58]).2.1) else none
def parseS (s : List UInt8) : List Dc := (pcsP 0 0 [] (bareP (s.length + 1) s)).filterMap declOf
theorem pcs_len : ∀ (s : List UInt8) (q : UInt8) (d : Nat) (now : List UInt8), (pcsP q d now s).length ≤ s.length + 1
  | [], q, d, now => by simp [pcsP]
  | c :: r, q, d, now => by
    have h1 : ∀ q d now, (pcsP q d now r).length ≤ r.length + 1 + 1 := fun q d now => Nat.le_succ_of_le (pcs_len r q d now)
    rw [pcsP, List.length_cons]
    split
    · exact h1 _ _ _
    · split
      · exact h1 _ _ _
      · split
        · exact h1 _ _ _
        · split
          · exact h1 _ _ _
          · split
            · rw [List.length_cons]
              have := pcs_len r 0 0 []
              omega
            · exact h1 _ _ _
theorem pcs_each : ∀ (s : List UInt8) (q : UInt8) (d : Nat) (now : List UInt8), ∀ p ∈ pcsP q d now s, p.length ≤ now.length + s.length
  | [], q, d, now => by intro p hp; rw [pcsP, List.mem_singleton] at hp; rw [hp]; simp
  | c :: r, q, d, now => by
    intro p hp
    have h1 : ∀ q d, p ∈ pcsP q d (now ++ [c]) r → p.length ≤ now.length + (r.length + 1) := fun q d hp => by
      have := pcs_each r q d (now ++ [c]) p hp
      simp only [List.length_append, List.length_singleton] at this
      omega
    rw [pcsP] at hp
    rw [List.length_cons]
    split at hp
    · exact h1 _ _ hp
    · split at hp
      · exact h1 _ _ hp
      · split at hp
        · exact h1 _ _ hp
        · split at hp
          · exact h1 _ _ hp
          · split at hp
            · rcases List.mem_cons.1 hp with rfl | hp
              · omega
              · have := pcs_each r 0 0 [] p hp
                simp only [List.length_nil] at this
                omega
            · exact h1 _ _ hp
theorem small_len (s : List UInt8) : (smallL s).length = s.length := by simp [smallL]
theorem filter_next {α β : Type} (f : α → Option β) {l : List α} {j : Nat} {x : α} (hx : l[j]? = some x) : (l.take (j + 1)).filterMap f = (l.take j).filterMap f ++ (f x).toList := by
  rw [List.take_add_one, hx, List.filterMap_append]
  cases h : f x <;> simp [h]
set_option maxHeartbeats 16000000 in
theorem style_parse (s : List UInt8) (hs : s.length ≤ 1048576) : Fn1G Tryd.prog GM 19 [.str s] (fun r => r = .lst ((parseS s).map declA)) := by
  have hbl := bareP_len (s.length + 1) s
  have hpc := style_pieces (bareP (s.length + 1) s) (by omega)
  have hpl := pcs_len (bareP (s.length + 1) s) 0 0 []
  have hpe := pcs_each (bareP (s.length + 1) s) 0 0 []
  have hps : parseS s = (pcsP 0 0 [] (bareP (s.length + 1) s)).filterMap declOf := rfl
  rw [hps]
  refine fn1GE (T := Tryd.tt) Tryd.func19 rfl tt_all follows_all ?_ ?_ fun C hC hW hG hE => ?_
  · kernel_rfl
  · exact Nat.le_of_ble_eq_true (by kernel_rfl)
  conv => whnf
  have hbr := (style_bare s hs).c hC hW kept_gm hG
  generalize hb : bareP (s.length + 1) s = b at *
  generalize hP : pcsP 0 0 [] b = ps at *
  have hpm := strs_len ps
  repeat' (first | (refine brd_t (by first | assumption | omega) ?_; conv => whnf) | (refine brd_f (by first | assumption | omega) ?_; conv => whnf) | (refine ask (by first | assumption | omega) ?_; conv => whnf) | (refine fit64 (by omega) ?_; conv => whnf) | (refine fit (by simp only [kmin, kmax]; omega) ?_; conv => whnf) | (refine br_t (by assumption) ?_; conv => whnf) | (refine br_f (by assumption) ?_; conv => whnf) | (refine get_of (by assumption) ?_; conv => whnf) | (refine get_map (by assumption) ?_; conv => whnf) | (refine callc_eq (hbr) hC hasBody_41 rfl ?_ ?_ ?_; kernel_rfl; kernel_rfl; conv => whnf) | (refine callcq_eq (hbr) hC hasBody_41 rfl ?_ ?_ ?_; kernel_rfl; kernel_rfl; conv => whnf) | (refine call_eq (hpc) hC hasBody_40 ?_ ?_ ?_; kernel_rfl; kernel_rfl; conv => whnf) | (refine callq_eq (hpc) hC hasBody_40 ?_ ?_ ?_; kernel_rfl; kernel_rfl; conv => whnf) | (refine draw_lex hE ?_ ?_; decide +kernel; conv => whnf) | (refine brd (fun h => ?_) (fun h => ?_) <;> conv => whnf) | (refine br (fun h => ?_) (fun h => ?_) <;> conv => whnf) | (refine ret_now hE ?_; conv => whnf) | (intro hlen; conv => whnf) | (refine seg_here ?_; conv => whnf) | (refine both ?_ ?_ <;> conv => whnf))
  refine loopE (fun j : Nat => ⟨47, [(3, .sl 0 0 ((ps.take j).filterMap declOf).length), (12, .lst (ps.map V.str)), (13, .int .i64 (ps.map V.str).length), (14, .int .i64 (j : Nat))], [some (.row 2 (((ps.take j).filterMap declOf).map declA))]⟩)
    (fun j => j ≤ ps.length) (fun j => ps.length - j) 0 hE ?_ ?_ (Nat.zero_le _) ?_
  · kernel_rfl
  · exact up_own 3 2 rfl rfl (at_keep [3, 12, 13, 14] rfl)
  intro j hj
  have hol : ((ps.take j).filterMap declOf).length ≤ j := Nat.le_trans (List.length_filterMap_le _ _) (by simp; omega)
  by_cases hlt : j < ps.length
  · obtain ⟨p, hx⟩ : ∃ p, ps[j]? = some p := ⟨_, List.getElem?_eq_getElem hlt⟩
    have hx' : (ps.map V.str)[j]? = some (.str p) := by rw [List.getElem?_map, hx]; rfl
    have hpz := hpe p (List.mem_of_getElem? hx)
    simp only [List.length_nil, Nat.zero_add] at hpz
    have hnx := filter_next declOf hx
    have hcut := (cut_walk p [58] (by omega)).c hC hW kept_gm hG
    have hcl := cut_len p [58]
    have hdo : declOf p = if (Lib.cut p [58]).2.2 = true ∧ nameOk (smallL (tS (Lib.cut p [58]).1)) = true ∧ tS (Lib.cut p [58]).2.1 ≠ [] then some (smallL (tS (Lib.cut p [58]).1), tS (Lib.cut p [58]).2.1) else none := rfl
    rw [hdo] at hnx
    obtain ⟨n, v, is, hc⟩ : ∃ n v is, Lib.cut p [58] = (n, v, is) := ⟨_, _, _, rfl⟩
    rw [hc] at hcut hcl hnx
    simp only at hcut hcl hnx
    have ht1 := trim_walk n (by omega)
    have ht2 := trim_walk v (by omega)
    have hl1 := trimS_len n [32, 9, 10, 12, 13]
    have hsm := tok_small (tS n) (by unfold tS; omega)
    have hem := emit_name (smallL (tS n))
    rw [show Lib.trimS n [32, 9, 10, 12, 13] = tS n from rfl] at ht1
    rw [show Lib.trimS v [32, 9, 10, 12, 13] = tS v from rfl] at ht2
    generalize hout : (ps.take j).filterMap declOf = out at *
    have hom := decls_len out
    have hap := decl_app out (smallL (tS n), tS v)
    have hal := decl_app_len out (smallL (tS n), tS v)
    generalize nameOk (smallL (tS n)) = ok at *
    cases is with
    | false =>
      rw [if_neg (by simp)] at hnx
      conv => whnf
      repeat' (first | (refine brd_t (by first | assumption | omega) ?_; conv => whnf) | (refine brd_f (by first | assumption | omega) ?_; conv => whnf) | (refine ask (by first | assumption | omega) ?_; conv => whnf) | (refine fit64 (by omega) ?_; conv => whnf) | (refine fit (by simp only [kmin, kmax]; omega) ?_; conv => whnf) | (refine br_t (by assumption) ?_; conv => whnf) | (refine br_f (by assumption) ?_; conv => whnf) | (refine get_of (by assumption) ?_; conv => whnf) | (refine get_map (by assumption) ?_; conv => whnf) | (refine callc_eq (hcut) hC hasBody_42 rfl ?_ ?_ ?_; kernel_rfl; kernel_rfl; conv => whnf) | (refine callcq_eq (hcut) hC hasBody_42 rfl ?_ ?_ ?_; kernel_rfl; kernel_rfl; conv => whnf) | (refine call_eq (ht1) hC hasBody_25 ?_ ?_ ?_; kernel_rfl; kernel_rfl; conv => whnf) | (refine callq_eq (ht1) hC hasBody_25 ?_ ?_ ?_; kernel_rfl; kernel_rfl; conv => whnf) | (refine call_eq (ht2) hC hasBody_25 ?_ ?_ ?_; kernel_rfl; kernel_rfl; conv => whnf) | (refine callq_eq (ht2) hC hasBody_25 ?_ ?_ ?_; kernel_rfl; kernel_rfl; conv => whnf) | (refine call_eq (hsm) hC hasBody_29 ?_ ?_ ?_; kernel_rfl; kernel_rfl; conv => whnf) | (refine callq_eq (hsm) hC hasBody_29 ?_ ?_ ?_; kernel_rfl; kernel_rfl; conv => whnf) | (refine call_eq (hem) hC hasBody_21 ?_ ?_ ?_; kernel_rfl; kernel_rfl; conv => whnf) | (refine callq_eq (hem) hC hasBody_21 ?_ ?_ ?_; kernel_rfl; kernel_rfl; conv => whnf) | (refine draw_lex hE ?_ ?_; decide +kernel; conv => whnf) | (refine brd (fun h => ?_) (fun h => ?_) <;> conv => whnf) | (refine br (fun h => ?_) (fun h => ?_) <;> conv => whnf) | (refine ret_now hE ?_; conv => whnf) | (intro hlen; conv => whnf) | (refine seg_here ?_; conv => whnf) | (refine both ?_ ?_ <;> conv => whnf))
      all_goals
        refine next_drop [3, 12, 13, 14] [1] (j + 1) hlt (show ps.length - (j + 1) < ps.length - j by omega) ?_
        conv => whnf
        rw [hnx, decl_kill]
        simp only [Option.toList, List.append_nil]
        rfl
    | true =>
      cases ok with
      | false =>
        rw [if_neg (by simp)] at hnx
        conv => whnf
        repeat' (first | (refine brd_t (by first | assumption | omega) ?_; conv => whnf) | (refine brd_f (by first | assumption | omega) ?_; conv => whnf) | (refine ask (by first | assumption | omega) ?_; conv => whnf) | (refine fit64 (by omega) ?_; conv => whnf) | (refine fit (by simp only [kmin, kmax]; omega) ?_; conv => whnf) | (refine br_t (by assumption) ?_; conv => whnf) | (refine br_f (by assumption) ?_; conv => whnf) | (refine get_of (by assumption) ?_; conv => whnf) | (refine get_map (by assumption) ?_; conv => whnf) | (refine callc_eq (hcut) hC hasBody_42 rfl ?_ ?_ ?_; kernel_rfl; kernel_rfl; conv => whnf) | (refine callcq_eq (hcut) hC hasBody_42 rfl ?_ ?_ ?_; kernel_rfl; kernel_rfl; conv => whnf) | (refine call_eq (ht1) hC hasBody_25 ?_ ?_ ?_; kernel_rfl; kernel_rfl; conv => whnf) | (refine callq_eq (ht1) hC hasBody_25 ?_ ?_ ?_; kernel_rfl; kernel_rfl; conv => whnf) | (refine call_eq (ht2) hC hasBody_25 ?_ ?_ ?_; kernel_rfl; kernel_rfl; conv => whnf) | (refine callq_eq (ht2) hC hasBody_25 ?_ ?_ ?_; kernel_rfl; kernel_rfl; conv => whnf) | (refine call_eq (hsm) hC hasBody_29 ?_ ?_ ?_; kernel_rfl; kernel_rfl; conv => whnf) | (refine callq_eq (hsm) hC hasBody_29 ?_ ?_ ?_; kernel_rfl; kernel_rfl; conv => whnf) | (refine call_eq (hem) hC hasBody_21 ?_ ?_ ?_; kernel_rfl; kernel_rfl; conv => whnf) | (refine callq_eq (hem) hC hasBody_21 ?_ ?_ ?_; kernel_rfl; kernel_rfl; conv => whnf) | (refine draw_lex hE ?_ ?_; decide +kernel; conv => whnf) | (refine brd (fun h => ?_) (fun h => ?_) <;> conv => whnf) | (refine br (fun h => ?_) (fun h => ?_) <;> conv => whnf) | (refine ret_now hE ?_; conv => whnf) | (intro hlen; conv => whnf) | (refine seg_here ?_; conv => whnf) | (refine both ?_ ?_ <;> conv => whnf))
        all_goals
          refine next_drop [3, 12, 13, 14] [1] (j + 1) hlt (show ps.length - (j + 1) < ps.length - j by omega) ?_
          conv => whnf
          rw [hnx, decl_kill]
          simp only [Option.toList, List.append_nil]
          rfl
      | true =>
        by_cases hv : tS v = []
        · rw [if_neg (by simp [hv])] at hnx
          conv => whnf
          repeat' (first | (refine brd_t (by first | assumption | omega) ?_; conv => whnf) | (refine brd_f (by first | assumption | omega) ?_; conv => whnf) | (refine ask (by first | assumption | omega) ?_; conv => whnf) | (refine fit64 (by omega) ?_; conv => whnf) | (refine fit (by simp only [kmin, kmax]; omega) ?_; conv => whnf) | (refine br_t (by assumption) ?_; conv => whnf) | (refine br_f (by assumption) ?_; conv => whnf) | (refine get_of (by assumption) ?_; conv => whnf) | (refine get_map (by assumption) ?_; conv => whnf) | (refine callc_eq (hcut) hC hasBody_42 rfl ?_ ?_ ?_; kernel_rfl; kernel_rfl; conv => whnf) | (refine callcq_eq (hcut) hC hasBody_42 rfl ?_ ?_ ?_; kernel_rfl; kernel_rfl; conv => whnf) | (refine call_eq (ht1) hC hasBody_25 ?_ ?_ ?_; kernel_rfl; kernel_rfl; conv => whnf) | (refine callq_eq (ht1) hC hasBody_25 ?_ ?_ ?_; kernel_rfl; kernel_rfl; conv => whnf) | (refine call_eq (ht2) hC hasBody_25 ?_ ?_ ?_; kernel_rfl; kernel_rfl; conv => whnf) | (refine callq_eq (ht2) hC hasBody_25 ?_ ?_ ?_; kernel_rfl; kernel_rfl; conv => whnf) | (refine call_eq (hsm) hC hasBody_29 ?_ ?_ ?_; kernel_rfl; kernel_rfl; conv => whnf) | (refine callq_eq (hsm) hC hasBody_29 ?_ ?_ ?_; kernel_rfl; kernel_rfl; conv => whnf) | (refine call_eq (hem) hC hasBody_21 ?_ ?_ ?_; kernel_rfl; kernel_rfl; conv => whnf) | (refine callq_eq (hem) hC hasBody_21 ?_ ?_ ?_; kernel_rfl; kernel_rfl; conv => whnf) | (refine draw_lex hE ?_ ?_; decide +kernel; conv => whnf) | (refine brd (fun h => ?_) (fun h => ?_) <;> conv => whnf) | (refine br (fun h => ?_) (fun h => ?_) <;> conv => whnf) | (refine ret_now hE ?_; conv => whnf) | (intro hlen; conv => whnf) | (refine seg_here ?_; conv => whnf) | (refine both ?_ ?_ <;> conv => whnf))
          all_goals
            refine next_drop [3, 12, 13, 14] [1] (j + 1) hlt (show ps.length - (j + 1) < ps.length - j by omega) ?_
            conv => whnf
            rw [hnx, decl_kill]
            simp only [Option.toList, List.append_nil]
            rfl
        · rw [if_pos ⟨rfl, rfl, hv⟩] at hnx
          conv => whnf
          repeat' (first | (refine brd_t (by first | assumption | omega) ?_; conv => whnf) | (refine brd_f (by first | assumption | omega) ?_; conv => whnf) | (refine ask (by first | assumption | omega) ?_; conv => whnf) | (refine fit64 (by omega) ?_; conv => whnf) | (refine fit (by simp only [kmin, kmax]; omega) ?_; conv => whnf) | (refine br_t (by assumption) ?_; conv => whnf) | (refine br_f (by assumption) ?_; conv => whnf) | (refine get_of (by assumption) ?_; conv => whnf) | (refine get_map (by assumption) ?_; conv => whnf) | (refine callc_eq (hcut) hC hasBody_42 rfl ?_ ?_ ?_; kernel_rfl; kernel_rfl; conv => whnf) | (refine callcq_eq (hcut) hC hasBody_42 rfl ?_ ?_ ?_; kernel_rfl; kernel_rfl; conv => whnf) | (refine call_eq (ht1) hC hasBody_25 ?_ ?_ ?_; kernel_rfl; kernel_rfl; conv => whnf) | (refine callq_eq (ht1) hC hasBody_25 ?_ ?_ ?_; kernel_rfl; kernel_rfl; conv => whnf) | (refine call_eq (ht2) hC hasBody_25 ?_ ?_ ?_; kernel_rfl; kernel_rfl; conv => whnf) | (refine callq_eq (ht2) hC hasBody_25 ?_ ?_ ?_; kernel_rfl; kernel_rfl; conv => whnf) | (refine call_eq (hsm) hC hasBody_29 ?_ ?_ ?_; kernel_rfl; kernel_rfl; conv => whnf) | (refine callq_eq (hsm) hC hasBody_29 ?_ ?_ ?_; kernel_rfl; kernel_rfl; conv => whnf) | (refine call_eq (hem) hC hasBody_21 ?_ ?_ ?_; kernel_rfl; kernel_rfl; conv => whnf) | (refine callq_eq (hem) hC hasBody_21 ?_ ?_ ?_; kernel_rfl; kernel_rfl; conv => whnf) | (refine ask (Nat.le_refl 1) ?_; conv => whnf) | (refine ask ⟨?_, ?_, ?_⟩ ?_; omega; (show _ + 1 ≤ 9223372036854775807; omega); (show (_ + 1) * _ ≤ 140737488355328; omega); conv => whnf) | (refine draw_lex hE ?_ ?_; decide +kernel; conv => whnf) | (refine brd (fun h => ?_) (fun h => ?_) <;> conv => whnf) | (refine br (fun h => ?_) (fun h => ?_) <;> conv => whnf) | (refine ret_now hE ?_; conv => whnf) | (intro hlen; conv => whnf) | (refine seg_here ?_; conv => whnf) | (refine both ?_ ?_ <;> conv => whnf))
          all_goals
            refine next_drop [3, 12, 13, 14] [1, 2] (j + 1) hlt (show ps.length - (j + 1) < ps.length - j by omega) ?_
            conv => whnf
            rw [hnx, hap, decl_kill, decl_kill, decl_kill, hal]
            rfl
  · have hjn : j = ps.length := by omega
    subst hjn
    rw [List.take_length] at *
    generalize ps.filterMap declOf = out at *
    have hom := decls_len out
    conv => whnf
    repeat' (first | (refine brd_t (by first | assumption | omega) ?_; conv => whnf) | (refine brd_f (by first | assumption | omega) ?_; conv => whnf) | (refine ask (by first | assumption | omega) ?_; conv => whnf) | (refine fit64 (by omega) ?_; conv => whnf) | (refine fit (by simp only [kmin, kmax]; omega) ?_; conv => whnf) | (refine br_t (by assumption) ?_; conv => whnf) | (refine br_f (by assumption) ?_; conv => whnf) | (refine get_of (by assumption) ?_; conv => whnf) | (refine get_map (by assumption) ?_; conv => whnf) | (refine ret_up (up_frzK 0 2 [] (z := 2) (els := out.map declA) rfl (nr_decls _) rfl hom.symm rfl (up_here ?_))) | (refine draw_lex hE ?_ ?_; decide +kernel; conv => whnf) | (refine brd (fun h => ?_) (fun h => ?_) <;> conv => whnf) | (refine br (fun h => ?_) (fun h => ?_) <;> conv => whnf) | (refine ret_now hE ?_; conv => whnf) | (intro hlen; conv => whnf) | (refine seg_here ?_; conv => whnf) | (refine both ?_ ?_ <;> conv => whnf))
    all_goals exact ⟨rfl, rfl⟩
end Go.Proofs.YtaeeceabnkgnnaaDoor
