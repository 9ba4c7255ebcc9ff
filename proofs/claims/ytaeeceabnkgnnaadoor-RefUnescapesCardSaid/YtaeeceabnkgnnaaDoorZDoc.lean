/- The document's RefUnescape, walked; the law. No conditions. -/
import Derived.Test.YtaeeceabnkgnnaaDoorZUne
import Derived.Test.YtaeeceabnkgnnaaDoorZRune
/-! The document's refAt, walked. No conditions. -/
set_option linter.unusedSimpArgs false
set_option linter.unusedVariables false
set_option maxRecDepth 100000
namespace Go.Proofs.YtaeeceabnkgnnaaDoor
open Go.RowKit

theorem digit_of (c : UInt8) : Fn1 Tryd.prog 64 [.int .u8 c.toNat] (fun v => v = .int .i64 (dg c : Nat)) := by
  have hb := c.toNat_lt
  have hd : dg c = if 48 ≤ c.toNat ∧ c.toNat ≤ 57 then c.toNat - 48 else if 97 ≤ c.toNat ∧ c.toNat ≤ 102 then c.toNat - 87 else if 65 ≤ c.toNat ∧ c.toNat ≤ 70 then c.toNat - 55 else 99 := rfl
  generalize dg c = d at *
  refine fn1E (T := Tryd.tt) Tryd.func64 rfl tt_all follows_all ?_ ?_ fun C hC hE => ?_
  · kernel_rfl
  · exact Nat.le_of_ble_eq_true (by kernel_rfl)
  conv => whnf
  repeat' (first | (refine brd_t (by first | assumption | omega) ?_; conv => whnf) | (refine brd_f (by first | assumption | omega) ?_; conv => whnf) | (refine ask (by first | assumption | omega) ?_; conv => whnf) | (refine fit64 (by omega) ?_; conv => whnf) | (refine fit (by simp only [kmin, kmax]; omega) ?_; conv => whnf) | (refine br_t (by assumption) ?_; conv => whnf) | (refine br_f (by assumption) ?_; conv => whnf) | (refine get_of (by assumption) ?_; conv => whnf) | (refine get_map (by assumption) ?_; conv => whnf) | (refine draw_lex hE ?_ ?_; decide +kernel; conv => whnf) | (refine brd (fun h => ?_) (fun h => ?_) <;> conv => whnf) | (refine br (fun h => ?_) (fun h => ?_) <;> conv => whnf) | (refine ret_now hE ?_; conv => whnf) | (intro hlen; conv => whnf) | (refine seg_here ?_; conv => whnf) | (refine both ?_ ?_ <;> conv => whnf))
  all_goals first
    | (rw [if_pos (by omega)] at hd; exact ⟨rfl, congrArg _ (by omega)⟩)
    | (rw [if_neg (by omega), if_pos (by omega)] at hd; exact ⟨rfl, congrArg _ (by omega)⟩)
    | (rw [if_neg (by omega), if_neg (by omega), if_pos (by omega)] at hd; exact ⟨rfl, congrArg _ (by omega)⟩)
    | (rw [if_neg (by omega), if_neg (by omega), if_neg (by omega)] at hd; exact ⟨rfl, congrArg _ (by omega)⟩)
/-- What stands at the head of a text: a letter's number and how much it takes. -/
def docR : List UInt8 → Option (Nat × Nat)
  | [] => none
  | c :: r => if c = 38 then (match spl r with
    | some p => (letR p.1).map fun m => (m, p.1.length + 2)
    | none => none) else none
theorem docR_cons (c : UInt8) (r : List UInt8) : docR (c :: r) = if c = 38 then (match spl r with
    | some p => (letR p.1).map fun m => (m, p.1.length + 2)
    | none => none) else none := rfl
def dV2 : Option (Nat × Nat) → V
  | some p => .tup [.int .i64 p.1, .int .i64 p.2]
  | none => .tup [.int .i64 0, .int .i64 0]
def nmL : List (List UInt8 × Nat) := [([38, 97, 109, 112, 59], 38), ([38, 108, 116, 59], 60), ([38, 103, 116, 59], 62), ([38, 113, 117, 111, 116, 59], 34), ([38, 110, 98, 115, 112, 59], 160), ([38, 99, 111, 112, 121, 59], 169)]
theorem docR_name : ∀ p ∈ nmL, ∀ t : List UInt8, t.take p.1.length = p.1 → docR t = some (p.2, p.1.length) := by
  intro p hp t ht
  have h := List.take_append_drop p.1.length t
  rw [ht] at h
  rw [← h]
  generalize t.drop p.1.length = u
  simp only [nmL, List.mem_cons, List.not_mem_nil, or_false] at hp
  rcases hp with rfl | rfl | rfl | rfl | rfl | rfl <;> rfl
theorem letR_plain {c : UInt8} {r : List UInt8} (h : c ≠ 35) : letR (c :: r) = if nmT (c :: r) = 0 then none else some (nmT (c :: r)) := by
  unfold letR
  have e : cutH (c :: r) = (c :: r, false) := if_neg h
  rw [e]
  simp
theorem docR_plain (t : List UInt8) (hno : ∀ p ∈ nmL, t.take p.1.length ≠ p.1) (h2 : t.length < 3 ∨ t.take 2 ≠ [38, 35]) : docR t = none := by
  match t, hno, h2 with
  | [], _, _ => rfl
  | c :: r, hno, h2 =>
    rw [docR_cons]
    by_cases hc : c = 38
    · rw [if_pos hc]
      subst hc
      cases hs : spl r with
      | none => rfl
      | some p =>
        obtain ⟨nm, rest⟩ := p
        have hr := spl_eq hs
        simp only
        cases nm with
        | nil => rfl
        | cons d nm =>
          have hd : d ≠ 35 := by
            rintro rfl
            rcases h2 with h2 | h2
            · rw [hr] at h2; simp at h2; omega
            · rw [hr] at h2; exact h2 rfl
          rw [letR_plain hd]
          have hz : nmT (d :: nm) = 0 := by
            unfold nmT
            have key : ∀ q : List UInt8, ∀ v : Nat, (38 :: (q ++ [59]), v) ∈ nmL → d :: nm ≠ q := by
              intro q v hq e
              refine hno _ hq ?_
              rw [hr, e, show (38 :: (q ++ 59 :: rest) : List UInt8) = (38 :: (q ++ [59])) ++ rest by simp]
              exact List.take_left' rfl
            rw [if_neg (key _ 38 (by simp [nmL])), if_neg (key _ 60 (by simp [nmL])), if_neg (key _ 62 (by simp [nmL])), if_neg (key _ 34 (by simp [nmL])), if_neg (key _ 160 (by simp [nmL])), if_neg (key _ 169 (by simp [nmL]))]
          rw [hz]
          rfl
    · rw [if_neg hc]
theorem docR_hex {x : UInt8} (hx : x = 120 ∨ x = 88) (w : List UInt8) : docR (38 :: 35 :: x :: w) = (numS 16 6 w).map fun p => (p.1, p.2 + 3) := by
  have h59 : x ≠ 59 := by rcases hx with rfl | rfl <;> decide
  rw [docR_cons]
  unfold numS
  rw [if_pos rfl]
  have e : spl (35 :: x :: w) = match spl w with | some p => some (35 :: x :: p.1, p.2) | none => none := by
    rw [spl, if_neg (by decide), spl, if_neg h59]
    cases spl w <;> rfl
  rw [e]
  cases spl w with
  | none => rfl
  | some p =>
    simp only
    have el : letR (35 :: x :: p.1) = numR 16 6 p.1 := by
      unfold letR
      have e : cutH (35 :: x :: p.1) = (x :: p.1, true) := by simp [cutH]
      rw [e, if_pos rfl]
      simp only
      rw [if_pos hx]
    rw [el]
    cases numR 16 6 p.1 <;> simp
theorem docR_dec {c : UInt8} (hx : ¬ (c = 120 ∨ c = 88)) (w : List UInt8) : docR (38 :: 35 :: c :: w) = (numS 10 7 (c :: w)).map fun p => (p.1, p.2 + 2) := by
  rw [docR_cons]
  unfold numS
  rw [if_pos rfl]
  have e : spl (35 :: c :: w) = match spl (c :: w) with | some p => some (35 :: p.1, p.2) | none => none := by
    rw [spl, if_neg (by decide)]
    cases spl (c :: w) <;> rfl
  rw [e]
  cases hs : spl (c :: w) with
  | none => rfl
  | some p =>
    obtain ⟨nm, rest⟩ := p
    simp only
    have hr := spl_eq hs
    have el : letR (35 :: nm) = numR 10 7 nm := by
      unfold letR
      have e : cutH (35 :: nm) = (nm, true) := by simp [cutH]
      rw [e, if_pos rfl]
      cases nm with
      | nil => rfl
      | cons d nm =>
        have hd : d = c := by
          have := congrArg List.head? hr
          simpa using this.symm
        simp only
        rw [if_neg (by rw [hd]; exact hx)]
    rw [el]
    cases numR 10 7 nm <;> simp

set_option maxHeartbeats 16000000 in
theorem ref_at (t : List UInt8) (hl : t.length ≤ 140737488355328) : Fn1 Tryd.prog 38 [.str t] (fun v => v = dV2 (docR t)) := by
  refine fn1E (T := Tryd.tt) Tryd.func38 rfl tt_all follows_all ?_ ?_ fun C hC hE => ?_
  · kernel_rfl
  · exact Nat.le_of_ble_eq_true (by kernel_rfl)
  conv => whnf
  repeat' (first | (refine brd_t (by first | assumption | omega) ?_; conv => whnf) | (refine brd_f (by first | assumption | omega) ?_; conv => whnf) | (refine ask (by first | assumption | omega) ?_; conv => whnf) | (refine fit64 (by omega) ?_; conv => whnf) | (refine fit (by simp only [kmin, kmax]; omega) ?_; conv => whnf) | (refine br_t (by assumption) ?_; conv => whnf) | (refine br_f (by assumption) ?_; conv => whnf) | (refine get_of (by assumption) ?_; conv => whnf) | (refine get_map (by assumption) ?_; conv => whnf) | (refine draw_lex hE ?_ ?_; decide +kernel; conv => whnf) | (refine brd (fun h => ?_) (fun h => ?_) <;> conv => whnf) | (refine br (fun h => ?_) (fun h => ?_) <;> conv => whnf) | (refine ret_now hE ?_; conv => whnf) | (intro hlen; conv => whnf) | (refine seg_here ?_; conv => whnf) | (refine both ?_ ?_ <;> conv => whnf))
  refine loopE (fun k : Nat => ⟨114, [(0, .str t), (4, .sl 0 0 6), (5, .sl 1 0 6), (15, .sl 0 0 6), (16, .int .i64 6), (17, .int .i64 k)], [some (.row 1 [.str [38, 97, 109, 112, 59], .str [38, 108, 116, 59], .str [38, 103, 116, 59], .str [38, 113, 117, 111, 116, 59], .str [38, 110, 98, 115, 112, 59], .str [38, 99, 111, 112, 121, 59]]), some (.row 1 [.int .i64 38, .int .i64 60, .int .i64 62, .int .i64 34, .int .i64 160, .int .i64 169])]⟩)
    (fun k => k ≤ 6 ∧ ∀ p ∈ nmL.take k, t.take p.1.length ≠ p.1) (fun k => 6 - k) 0 hE ?_ ?_ ⟨Nat.zero_le _, by intro p hp; simp at hp⟩ ?_
  · kernel_rfl
  · exact at_keep [0, 4, 5, 15, 16, 17] rfl
  intro k hk
  obtain ⟨hk, hno⟩ := hk
  match k, hk, hno with
  | 0, hk, hno =>
    have hL : ([38, 97, 109, 112, 59] : List UInt8).length = 5 := rfl
    have hpm : (([38, 97, 109, 112, 59], 38) : List UInt8 × Nat) ∈ nmL := by simp [nmL]
    have hst : ∀ (hn : t.take 5 ≠ [38, 97, 109, 112, 59]), ∀ p ∈ nmL.take 1, t.take p.1.length ≠ p.1 := by
      intro hn p hp
      rw [show nmL.take 1 = nmL.take 0 ++ [([38, 97, 109, 112, 59], 38)] from rfl] at hp
      rcases List.mem_append.1 hp with hp | hp
      · exact hno p hp
      · rw [List.mem_singleton.1 hp]; exact hn
    have hle : ∀ h : 5 ≤ t.length, ((([38, 97, 109, 112, 59] : List UInt8).length : Int)).toNat ≤ t.length := fun h => h
    conv => whnf
    repeat' (first | (refine brd_t (by first | assumption | omega) ?_; conv => whnf) | (refine brd_f (by first | assumption | omega) ?_; conv => whnf) | (refine ask (by first | assumption | omega) ?_; conv => whnf) | (refine fit64 (by omega) ?_; conv => whnf) | (refine fit (by simp only [kmin, kmax]; omega) ?_; conv => whnf) | (refine br_t (by assumption) ?_; conv => whnf) | (refine br_f (by assumption) ?_; conv => whnf) | (refine get_of (by assumption) ?_; conv => whnf) | (refine get_map (by assumption) ?_; conv => whnf) | (refine ask (hle (by omega)) ?_; conv => whnf) | (refine draw_lex hE ?_ ?_; decide +kernel; conv => whnf) | (refine brd (fun h => ?_) (fun h => ?_) <;> conv => whnf) | (refine br (fun h => ?_) (fun h => ?_) <;> conv => whnf) | (refine ret_now hE ?_; conv => whnf) | (intro hlen; conv => whnf) | (refine seg_here ?_; conv => whnf) | (refine both ?_ ?_ <;> conv => whnf))
    all_goals first
      | (exact ⟨rfl, by rw [docR_name _ hpm t (by assumption)]; rfl⟩)
      | (refine next_keep [0, 4, 5, 15, 16, 17] 1 ⟨by omega, hst (by first | assumption | (intro e; have := congrArg List.length e; rw [List.length_take] at this; simp at this; omega))⟩ (by omega) rfl)
  | 1, hk, hno =>
    have hL : ([38, 108, 116, 59] : List UInt8).length = 4 := rfl
    have hpm : (([38, 108, 116, 59], 60) : List UInt8 × Nat) ∈ nmL := by simp [nmL]
    have hst : ∀ (hn : t.take 4 ≠ [38, 108, 116, 59]), ∀ p ∈ nmL.take 2, t.take p.1.length ≠ p.1 := by
      intro hn p hp
      rw [show nmL.take 2 = nmL.take 1 ++ [([38, 108, 116, 59], 60)] from rfl] at hp
      rcases List.mem_append.1 hp with hp | hp
      · exact hno p hp
      · rw [List.mem_singleton.1 hp]; exact hn
    have hle : ∀ h : 4 ≤ t.length, ((([38, 108, 116, 59] : List UInt8).length : Int)).toNat ≤ t.length := fun h => h
    conv => whnf
    repeat' (first | (refine brd_t (by first | assumption | omega) ?_; conv => whnf) | (refine brd_f (by first | assumption | omega) ?_; conv => whnf) | (refine ask (by first | assumption | omega) ?_; conv => whnf) | (refine fit64 (by omega) ?_; conv => whnf) | (refine fit (by simp only [kmin, kmax]; omega) ?_; conv => whnf) | (refine br_t (by assumption) ?_; conv => whnf) | (refine br_f (by assumption) ?_; conv => whnf) | (refine get_of (by assumption) ?_; conv => whnf) | (refine get_map (by assumption) ?_; conv => whnf) | (refine ask (hle (by omega)) ?_; conv => whnf) | (refine draw_lex hE ?_ ?_; decide +kernel; conv => whnf) | (refine brd (fun h => ?_) (fun h => ?_) <;> conv => whnf) | (refine br (fun h => ?_) (fun h => ?_) <;> conv => whnf) | (refine ret_now hE ?_; conv => whnf) | (intro hlen; conv => whnf) | (refine seg_here ?_; conv => whnf) | (refine both ?_ ?_ <;> conv => whnf))
    all_goals first
      | (exact ⟨rfl, by rw [docR_name _ hpm t (by assumption)]; rfl⟩)
      | (refine next_keep [0, 4, 5, 15, 16, 17] 2 ⟨by omega, hst (by first | assumption | (intro e; have := congrArg List.length e; rw [List.length_take] at this; simp at this; omega))⟩ (by omega) rfl)
  | 2, hk, hno =>
    have hL : ([38, 103, 116, 59] : List UInt8).length = 4 := rfl
    have hpm : (([38, 103, 116, 59], 62) : List UInt8 × Nat) ∈ nmL := by simp [nmL]
    have hst : ∀ (hn : t.take 4 ≠ [38, 103, 116, 59]), ∀ p ∈ nmL.take 3, t.take p.1.length ≠ p.1 := by
      intro hn p hp
      rw [show nmL.take 3 = nmL.take 2 ++ [([38, 103, 116, 59], 62)] from rfl] at hp
      rcases List.mem_append.1 hp with hp | hp
      · exact hno p hp
      · rw [List.mem_singleton.1 hp]; exact hn
    have hle : ∀ h : 4 ≤ t.length, ((([38, 103, 116, 59] : List UInt8).length : Int)).toNat ≤ t.length := fun h => h
    conv => whnf
    repeat' (first | (refine brd_t (by first | assumption | omega) ?_; conv => whnf) | (refine brd_f (by first | assumption | omega) ?_; conv => whnf) | (refine ask (by first | assumption | omega) ?_; conv => whnf) | (refine fit64 (by omega) ?_; conv => whnf) | (refine fit (by simp only [kmin, kmax]; omega) ?_; conv => whnf) | (refine br_t (by assumption) ?_; conv => whnf) | (refine br_f (by assumption) ?_; conv => whnf) | (refine get_of (by assumption) ?_; conv => whnf) | (refine get_map (by assumption) ?_; conv => whnf) | (refine ask (hle (by omega)) ?_; conv => whnf) | (refine draw_lex hE ?_ ?_; decide +kernel; conv => whnf) | (refine brd (fun h => ?_) (fun h => ?_) <;> conv => whnf) | (refine br (fun h => ?_) (fun h => ?_) <;> conv => whnf) | (refine ret_now hE ?_; conv => whnf) | (intro hlen; conv => whnf) | (refine seg_here ?_; conv => whnf) | (refine both ?_ ?_ <;> conv => whnf))
    all_goals first
      | (exact ⟨rfl, by rw [docR_name _ hpm t (by assumption)]; rfl⟩)
      | (refine next_keep [0, 4, 5, 15, 16, 17] 3 ⟨by omega, hst (by first | assumption | (intro e; have := congrArg List.length e; rw [List.length_take] at this; simp at this; omega))⟩ (by omega) rfl)
  | 3, hk, hno =>
    have hL : ([38, 113, 117, 111, 116, 59] : List UInt8).length = 6 := rfl
    have hpm : (([38, 113, 117, 111, 116, 59], 34) : List UInt8 × Nat) ∈ nmL := by simp [nmL]
    have hst : ∀ (hn : t.take 6 ≠ [38, 113, 117, 111, 116, 59]), ∀ p ∈ nmL.take 4, t.take p.1.length ≠ p.1 := by
      intro hn p hp
      rw [show nmL.take 4 = nmL.take 3 ++ [([38, 113, 117, 111, 116, 59], 34)] from rfl] at hp
      rcases List.mem_append.1 hp with hp | hp
      · exact hno p hp
      · rw [List.mem_singleton.1 hp]; exact hn
    have hle : ∀ h : 6 ≤ t.length, ((([38, 113, 117, 111, 116, 59] : List UInt8).length : Int)).toNat ≤ t.length := fun h => h
    conv => whnf
    repeat' (first | (refine brd_t (by first | assumption | omega) ?_; conv => whnf) | (refine brd_f (by first | assumption | omega) ?_; conv => whnf) | (refine ask (by first | assumption | omega) ?_; conv => whnf) | (refine fit64 (by omega) ?_; conv => whnf) | (refine fit (by simp only [kmin, kmax]; omega) ?_; conv => whnf) | (refine br_t (by assumption) ?_; conv => whnf) | (refine br_f (by assumption) ?_; conv => whnf) | (refine get_of (by assumption) ?_; conv => whnf) | (refine get_map (by assumption) ?_; conv => whnf) | (refine ask (hle (by omega)) ?_; conv => whnf) | (refine draw_lex hE ?_ ?_; decide +kernel; conv => whnf) | (refine brd (fun h => ?_) (fun h => ?_) <;> conv => whnf) | (refine br (fun h => ?_) (fun h => ?_) <;> conv => whnf) | (refine ret_now hE ?_; conv => whnf) | (intro hlen; conv => whnf) | (refine seg_here ?_; conv => whnf) | (refine both ?_ ?_ <;> conv => whnf))
    all_goals first
      | (exact ⟨rfl, by rw [docR_name _ hpm t (by assumption)]; rfl⟩)
      | (refine next_keep [0, 4, 5, 15, 16, 17] 4 ⟨by omega, hst (by first | assumption | (intro e; have := congrArg List.length e; rw [List.length_take] at this; simp at this; omega))⟩ (by omega) rfl)
  | 4, hk, hno =>
    have hL : ([38, 110, 98, 115, 112, 59] : List UInt8).length = 6 := rfl
    have hpm : (([38, 110, 98, 115, 112, 59], 160) : List UInt8 × Nat) ∈ nmL := by simp [nmL]
    have hst : ∀ (hn : t.take 6 ≠ [38, 110, 98, 115, 112, 59]), ∀ p ∈ nmL.take 5, t.take p.1.length ≠ p.1 := by
      intro hn p hp
      rw [show nmL.take 5 = nmL.take 4 ++ [([38, 110, 98, 115, 112, 59], 160)] from rfl] at hp
      rcases List.mem_append.1 hp with hp | hp
      · exact hno p hp
      · rw [List.mem_singleton.1 hp]; exact hn
    have hle : ∀ h : 6 ≤ t.length, ((([38, 110, 98, 115, 112, 59] : List UInt8).length : Int)).toNat ≤ t.length := fun h => h
    conv => whnf
    repeat' (first | (refine brd_t (by first | assumption | omega) ?_; conv => whnf) | (refine brd_f (by first | assumption | omega) ?_; conv => whnf) | (refine ask (by first | assumption | omega) ?_; conv => whnf) | (refine fit64 (by omega) ?_; conv => whnf) | (refine fit (by simp only [kmin, kmax]; omega) ?_; conv => whnf) | (refine br_t (by assumption) ?_; conv => whnf) | (refine br_f (by assumption) ?_; conv => whnf) | (refine get_of (by assumption) ?_; conv => whnf) | (refine get_map (by assumption) ?_; conv => whnf) | (refine ask (hle (by omega)) ?_; conv => whnf) | (refine draw_lex hE ?_ ?_; decide +kernel; conv => whnf) | (refine brd (fun h => ?_) (fun h => ?_) <;> conv => whnf) | (refine br (fun h => ?_) (fun h => ?_) <;> conv => whnf) | (refine ret_now hE ?_; conv => whnf) | (intro hlen; conv => whnf) | (refine seg_here ?_; conv => whnf) | (refine both ?_ ?_ <;> conv => whnf))
    all_goals first
      | (exact ⟨rfl, by rw [docR_name _ hpm t (by assumption)]; rfl⟩)
      | (refine next_keep [0, 4, 5, 15, 16, 17] 5 ⟨by omega, hst (by first | assumption | (intro e; have := congrArg List.length e; rw [List.length_take] at this; simp at this; omega))⟩ (by omega) rfl)
  | 5, hk, hno =>
    have hL : ([38, 99, 111, 112, 121, 59] : List UInt8).length = 6 := rfl
    have hpm : (([38, 99, 111, 112, 121, 59], 169) : List UInt8 × Nat) ∈ nmL := by simp [nmL]
    have hst : ∀ (hn : t.take 6 ≠ [38, 99, 111, 112, 121, 59]), ∀ p ∈ nmL.take 6, t.take p.1.length ≠ p.1 := by
      intro hn p hp
      rw [show nmL.take 6 = nmL.take 5 ++ [([38, 99, 111, 112, 121, 59], 169)] from rfl] at hp
      rcases List.mem_append.1 hp with hp | hp
      · exact hno p hp
      · rw [List.mem_singleton.1 hp]; exact hn
    have hle : ∀ h : 6 ≤ t.length, ((([38, 99, 111, 112, 121, 59] : List UInt8).length : Int)).toNat ≤ t.length := fun h => h
    conv => whnf
    repeat' (first | (refine brd_t (by first | assumption | omega) ?_; conv => whnf) | (refine brd_f (by first | assumption | omega) ?_; conv => whnf) | (refine ask (by first | assumption | omega) ?_; conv => whnf) | (refine fit64 (by omega) ?_; conv => whnf) | (refine fit (by simp only [kmin, kmax]; omega) ?_; conv => whnf) | (refine br_t (by assumption) ?_; conv => whnf) | (refine br_f (by assumption) ?_; conv => whnf) | (refine get_of (by assumption) ?_; conv => whnf) | (refine get_map (by assumption) ?_; conv => whnf) | (refine ask (hle (by omega)) ?_; conv => whnf) | (refine draw_lex hE ?_ ?_; decide +kernel; conv => whnf) | (refine brd (fun h => ?_) (fun h => ?_) <;> conv => whnf) | (refine br (fun h => ?_) (fun h => ?_) <;> conv => whnf) | (refine ret_now hE ?_; conv => whnf) | (intro hlen; conv => whnf) | (refine seg_here ?_; conv => whnf) | (refine both ?_ ?_ <;> conv => whnf))
    all_goals first
      | (exact ⟨rfl, by rw [docR_name _ hpm t (by assumption)]; rfl⟩)
      | (refine next_keep [0, 4, 5, 15, 16, 17] 6 ⟨by omega, hst (by first | assumption | (intro e; have := congrArg List.length e; rw [List.length_take] at this; simp at this; omega))⟩ (by omega) rfl)
  | 6, hk, hno =>
    have hno : ∀ p ∈ nmL, t.take p.1.length ≠ p.1 := hno
    by_cases h3 : t.length < 3
    · have hp := docR_plain t hno (.inl h3)
      conv => whnf
      repeat' (first | (refine brd_t (by first | assumption | omega) ?_; conv => whnf) | (refine brd_f (by first | assumption | omega) ?_; conv => whnf) | (refine ask (by first | assumption | omega) ?_; conv => whnf) | (refine fit64 (by omega) ?_; conv => whnf) | (refine fit (by simp only [kmin, kmax]; omega) ?_; conv => whnf) | (refine br_t (by assumption) ?_; conv => whnf) | (refine br_f (by assumption) ?_; conv => whnf) | (refine get_of (by assumption) ?_; conv => whnf) | (refine get_map (by assumption) ?_; conv => whnf) | (refine draw_lex hE ?_ ?_; decide +kernel; conv => whnf) | (refine brd (fun h => ?_) (fun h => ?_) <;> conv => whnf) | (refine br (fun h => ?_) (fun h => ?_) <;> conv => whnf) | (refine ret_now hE ?_; conv => whnf) | (intro hlen; conv => whnf) | (refine seg_here ?_; conv => whnf) | (refine both ?_ ?_ <;> conv => whnf))
      all_goals exact ⟨rfl, by rw [hp]; rfl⟩
    · have hle2 : (2 : Int).toNat ≤ t.length := by show 2 ≤ _; omega
      by_cases h35 : t.take 2 = [38, 35]
      · have h35b : t.take (Int.toNat 2) = [38, 35] := h35
        obtain ⟨c, w, rfl⟩ : ∃ c w, t = 38 :: 35 :: c :: w := by
          match t, h3, h35 with
          | a :: b :: c :: w, _, h =>
            simp only [List.take_succ_cons, List.take_zero, List.cons.injEq, and_true] at h
            exact ⟨c, w, by rw [h.1, h.2]⟩
          | [], h, _ => simp at h
          | [_], h, _ => simp at h
          | [_, _], h, _ => simp at h
        have h120 : (120 : UInt8).toNat = 120 := rfl
        have h88 : (88 : UInt8).toNat = 88 := rfl
        have hcb := c.toNat_lt
        have hi2 : (2 : Int).toNat < (38 :: 35 :: c :: w).length := by show 2 < _; simp
        by_cases hx : c = 120 ∨ c = 88
        · have hx2 : (c.toNat : Int) = 120 ∨ (c.toNat : Int) = 88 := by rcases hx with rfl | rfl; exact .inl rfl; exact .inr rfl
          rw [docR_hex hx w, ← num_eq (by omega) w]
          generalize hT : (38 :: 35 :: c :: w : List UInt8) = T at *
          have hTd : T.drop 3 = w := by rw [← hT]; rfl
          have hTl : T.length = w.length + 3 := by rw [← hT]; rfl
          have hg2 : T[Int.toNat 2]? = some c := by rw [← hT]; rfl
          have hnum : numD 16 6 (w) = match scn 16 6 0 0 (w) with
            | (v, k, d :: _) => if d = 59 ∧ k ≠ 0 ∧ k ≤ 6 then some (fixR v, k + 1) else none
            | _ => none := rfl
          conv => whnf
          repeat' (first | (refine brd_t (by first | assumption | omega) ?_; conv => whnf) | (refine brd_f (by first | assumption | omega) ?_; conv => whnf) | (refine ask (by first | assumption | omega) ?_; conv => whnf) | (refine fit64 (by omega) ?_; conv => whnf) | (refine fit (by simp only [kmin, kmax]; omega) ?_; conv => whnf) | (refine br_t (by assumption) ?_; conv => whnf) | (refine br_f (by assumption) ?_; conv => whnf) | (refine get_of (by assumption) ?_; conv => whnf) | (refine get_map (by assumption) ?_; conv => whnf) | (rw [hg2]; conv => whnf) | (refine draw_lex hE ?_ ?_; decide +kernel; conv => whnf) | (refine brd (fun h => ?_) (fun h => ?_) <;> conv => whnf) | (refine br (fun h => ?_) (fun h => ?_) <;> conv => whnf) | (refine ret_now hE ?_; conv => whnf) | (intro hlen; conv => whnf) | (refine seg_here ?_; conv => whnf) | (refine both ?_ ?_ <;> conv => whnf))
          all_goals try (exfalso; omega)
          all_goals
            refine loopE (fun ((q, v, k) : Nat × Nat × Nat) => ⟨114, [(0, .str T), (8, .int .i64 q), (9, .int .i64 16), (10, .int .i64 6), (11, .int .i64 v), (12, .int .i64 k)], [some (.row 1 [.str [38, 97, 109, 112, 59], .str [38, 108, 116, 59], .str [38, 103, 116, 59], .str [38, 113, 117, 111, 116, 59], .str [38, 110, 98, 115, 112, 59], .str [38, 99, 111, 112, 121, 59]]), some (.row 1 [.int .i64 38, .int .i64 60, .int .i64 62, .int .i64 34, .int .i64 160, .int .i64 169])]⟩)
              (fun (q, v, k) => q ≤ T.length ∧ k + 3 = q ∧ (k ≤ 6 + 1 → v < 16 ^ k) ∧ v < 4294967296 ∧ scn 16 6 v k (T.drop q) = scn 16 6 0 0 (w)) (fun (q, _, _) => T.length - q) (3, 0, 0) hE ?_ ?_ ⟨by show 3 ≤ _; omega, Nat.zero_add _, fun _ => Nat.lt_succ_self _, by show 0 < _; omega, by rw [hTd]⟩ ?_
            · kernel_rfl
            · exact at_keep [0, 8, 9, 10, 11, 12] rfl
            rintro ⟨q, v, k⟩ ⟨hq, hkq, hv1, hv2, hsc⟩
            have hkq : k + 3 = q := hkq
            have hv1 : k ≤ 6 + 1 → v < 16 ^ k := hv1
            have hv2 : v < 4294967296 := hv2
            have hsc : scn 16 6 v k (T.drop q) = scn 16 6 0 0 (w) := hsc
            by_cases hlt : q < T.length
            · obtain ⟨d, r, hd⟩ : ∃ d r, T.drop q = d :: r := by
                cases h : T.drop q with
                | nil => have := congrArg List.length h; simp at this; omega
                | cons d r => exact ⟨d, r, rfl⟩
              have hgd : T[q]? = some d := by rw [← List.head?_drop, hd]; rfl
              have hdr : T.drop (q + 1) = r := by rw [← List.drop_drop, hd]; rfl
              have hdo := digit_of d
              have hdb := d.toNat_lt
              rw [hd, scn] at hsc
              by_cases hdB : dg d < 16
              · rw [if_pos hdB] at hsc
                by_cases hk : k ≤ 6
                · rw [if_pos hk] at hsc
                  have hp : 16 ^ (k + 1) = 16 ^ k * 16 := Nat.pow_succ 16 k
                  have hp2 : 16 ^ (k + 1) ≤ 4294967296 := Nat.pow_le_pow_right (n := 16) (by omega) (show k + 1 ≤ 8 by omega)
                  have hvk := hv1 (by omega)
                  conv => whnf
                  repeat' (first | (refine brd_t (by first | assumption | omega) ?_; conv => whnf) | (refine brd_f (by first | assumption | omega) ?_; conv => whnf) | (refine ask (by first | assumption | omega) ?_; conv => whnf) | (refine fit64 (by omega) ?_; conv => whnf) | (refine fit (by simp only [kmin, kmax]; omega) ?_; conv => whnf) | (refine br_t (by assumption) ?_; conv => whnf) | (refine br_f (by assumption) ?_; conv => whnf) | (refine get_of (by assumption) ?_; conv => whnf) | (refine get_map (by assumption) ?_; conv => whnf) | (refine call_eq (hdo) hC hasBody_64 ?_ ?_ ?_; kernel_rfl; kernel_rfl; conv => whnf) | (refine callq_eq (hdo) hC hasBody_64 ?_ ?_ ?_; kernel_rfl; kernel_rfl; conv => whnf) | (rw [show ((q : Nat) : Int).toNat = q by omega, hgd]; conv => whnf) | (refine draw_lex hE ?_ ?_; decide +kernel; conv => whnf) | (refine brd (fun h => ?_) (fun h => ?_) <;> conv => whnf) | (refine br (fun h => ?_) (fun h => ?_) <;> conv => whnf) | (refine ret_now hE ?_; conv => whnf) | (intro hlen; conv => whnf) | (refine seg_here ?_; conv => whnf) | (refine both ?_ ?_ <;> conv => whnf))
                  all_goals exact next_keep [0, 8, 9, 10, 11, 12] (q + 1, v * 16 + dg d, k + 1) ⟨hlt, by show k + 1 + 3 = q + 1; omega, fun _ => by show _ < 16 ^ (k + 1); omega, by show v * 16 + dg d < _; omega, by show scn _ _ _ _ (T.drop (q + 1)) = _; rw [hdr]; exact hsc⟩ (show T.length - (q + 1) < T.length - q by omega) rfl
                · rw [if_neg hk] at hsc
                  conv => whnf
                  repeat' (first | (refine brd_t (by first | assumption | omega) ?_; conv => whnf) | (refine brd_f (by first | assumption | omega) ?_; conv => whnf) | (refine ask (by first | assumption | omega) ?_; conv => whnf) | (refine fit64 (by omega) ?_; conv => whnf) | (refine fit (by simp only [kmin, kmax]; omega) ?_; conv => whnf) | (refine br_t (by assumption) ?_; conv => whnf) | (refine br_f (by assumption) ?_; conv => whnf) | (refine get_of (by assumption) ?_; conv => whnf) | (refine get_map (by assumption) ?_; conv => whnf) | (refine call_eq (hdo) hC hasBody_64 ?_ ?_ ?_; kernel_rfl; kernel_rfl; conv => whnf) | (refine callq_eq (hdo) hC hasBody_64 ?_ ?_ ?_; kernel_rfl; kernel_rfl; conv => whnf) | (rw [show ((q : Nat) : Int).toNat = q by omega, hgd]; conv => whnf) | (refine draw_lex hE ?_ ?_; decide +kernel; conv => whnf) | (refine brd (fun h => ?_) (fun h => ?_) <;> conv => whnf) | (refine br (fun h => ?_) (fun h => ?_) <;> conv => whnf) | (refine ret_now hE ?_; conv => whnf) | (intro hlen; conv => whnf) | (refine seg_here ?_; conv => whnf) | (refine both ?_ ?_ <;> conv => whnf))
                  all_goals exact next_keep [0, 8, 9, 10, 11, 12] (q + 1, v, k + 1) ⟨hlt, by show k + 1 + 3 = q + 1; omega, fun h => by have h : k + 1 ≤ _ := h; omega, hv2, by show scn _ _ _ _ (T.drop (q + 1)) = _; rw [hdr]; exact hsc⟩ (show T.length - (q + 1) < T.length - q by omega) rfl
              · rw [if_neg hdB] at hsc
                rw [← hsc] at hnum
                have h59 : (59 : UInt8).toNat = 59 := rfl
                by_cases hok : d = 59 ∧ k ≠ 0 ∧ k ≤ 6
                · have hnum : numD 16 6 (w) = some (fixR v, k + 1) := hnum.trans (if_pos hok)
                  rw [hnum]
                  obtain ⟨rfl, hk0, hkl⟩ := hok
                  have hd59 : ((59 : UInt8).toNat : Int) = 59 := rfl
                  have hil := is_letter (v : Int)
                  have hfx : fixR v = if v = 0 ∨ 1114111 < v ∨ letB v = false then 65533 else v := rfl
                  have hlb : letB (v : Int) = true → v ≤ 1114111 := fun h => by unfold letB at h; have := of_decide_eq_true h; omega
                  cases hb : letB (v : Int) with
                  | true =>
                    rw [hb] at hil hfx
                    have hlb := hlb hb
                    by_cases h0 : v = 0
                    · rw [if_pos (.inl h0)] at hfx
                      conv => whnf
                      repeat' (first | (refine brd_t (by first | assumption | omega) ?_; conv => whnf) | (refine brd_f (by first | assumption | omega) ?_; conv => whnf) | (refine ask (by first | assumption | omega) ?_; conv => whnf) | (refine fit64 (by omega) ?_; conv => whnf) | (refine fit (by simp only [kmin, kmax]; omega) ?_; conv => whnf) | (refine br_t (by assumption) ?_; conv => whnf) | (refine br_f (by assumption) ?_; conv => whnf) | (refine get_of (by assumption) ?_; conv => whnf) | (refine get_map (by assumption) ?_; conv => whnf) | (refine call_eq (hdo) hC hasBody_64 ?_ ?_ ?_; kernel_rfl; kernel_rfl; conv => whnf) | (refine callq_eq (hdo) hC hasBody_64 ?_ ?_ ?_; kernel_rfl; kernel_rfl; conv => whnf) | (refine call_eq (hil) hC hasBody_65 ?_ ?_ ?_; kernel_rfl; kernel_rfl; conv => whnf) | (refine callq_eq (hil) hC hasBody_65 ?_ ?_ ?_; kernel_rfl; kernel_rfl; conv => whnf) | (rw [show ((q : Nat) : Int).toNat = q by omega, hgd]; conv => whnf) | (refine draw_lex hE ?_ ?_; decide +kernel; conv => whnf) | (refine brd (fun h => ?_) (fun h => ?_) <;> conv => whnf) | (refine br (fun h => ?_) (fun h => ?_) <;> conv => whnf) | (refine ret_now hE ?_; conv => whnf) | (intro hlen; conv => whnf) | (refine seg_here ?_; conv => whnf) | (refine both ?_ ?_ <;> conv => whnf))
                      all_goals exact ⟨rfl, by rw [hfx]; subst hkq; rfl⟩
                    · rw [if_neg (by intro h; rcases h with h | h | h; exact h0 h; omega; cases h)] at hfx
                      conv => whnf
                      repeat' (first | (refine brd_t (by first | assumption | omega) ?_; conv => whnf) | (refine brd_f (by first | assumption | omega) ?_; conv => whnf) | (refine ask (by first | assumption | omega) ?_; conv => whnf) | (refine fit64 (by omega) ?_; conv => whnf) | (refine fit (by simp only [kmin, kmax]; omega) ?_; conv => whnf) | (refine br_t (by assumption) ?_; conv => whnf) | (refine br_f (by assumption) ?_; conv => whnf) | (refine get_of (by assumption) ?_; conv => whnf) | (refine get_map (by assumption) ?_; conv => whnf) | (refine call_eq (hdo) hC hasBody_64 ?_ ?_ ?_; kernel_rfl; kernel_rfl; conv => whnf) | (refine callq_eq (hdo) hC hasBody_64 ?_ ?_ ?_; kernel_rfl; kernel_rfl; conv => whnf) | (refine call_eq (hil) hC hasBody_65 ?_ ?_ ?_; kernel_rfl; kernel_rfl; conv => whnf) | (refine callq_eq (hil) hC hasBody_65 ?_ ?_ ?_; kernel_rfl; kernel_rfl; conv => whnf) | (rw [show ((q : Nat) : Int).toNat = q by omega, hgd]; conv => whnf) | (refine draw_lex hE ?_ ?_; decide +kernel; conv => whnf) | (refine brd (fun h => ?_) (fun h => ?_) <;> conv => whnf) | (refine br (fun h => ?_) (fun h => ?_) <;> conv => whnf) | (refine ret_now hE ?_; conv => whnf) | (intro hlen; conv => whnf) | (refine seg_here ?_; conv => whnf) | (refine both ?_ ?_ <;> conv => whnf))
                      all_goals exact ⟨rfl, by rw [hfx]; subst hkq; rfl⟩
                  | false =>
                    rw [hb] at hil hfx
                    rw [if_pos (.inr (.inr rfl))] at hfx
                    conv => whnf
                    repeat' (first | (refine brd_t (by first | assumption | omega) ?_; conv => whnf) | (refine brd_f (by first | assumption | omega) ?_; conv => whnf) | (refine ask (by first | assumption | omega) ?_; conv => whnf) | (refine fit64 (by omega) ?_; conv => whnf) | (refine fit (by simp only [kmin, kmax]; omega) ?_; conv => whnf) | (refine br_t (by assumption) ?_; conv => whnf) | (refine br_f (by assumption) ?_; conv => whnf) | (refine get_of (by assumption) ?_; conv => whnf) | (refine get_map (by assumption) ?_; conv => whnf) | (refine call_eq (hdo) hC hasBody_64 ?_ ?_ ?_; kernel_rfl; kernel_rfl; conv => whnf) | (refine callq_eq (hdo) hC hasBody_64 ?_ ?_ ?_; kernel_rfl; kernel_rfl; conv => whnf) | (refine call_eq (hil) hC hasBody_65 ?_ ?_ ?_; kernel_rfl; kernel_rfl; conv => whnf) | (refine callq_eq (hil) hC hasBody_65 ?_ ?_ ?_; kernel_rfl; kernel_rfl; conv => whnf) | (rw [show ((q : Nat) : Int).toNat = q by omega, hgd]; conv => whnf) | (refine draw_lex hE ?_ ?_; decide +kernel; conv => whnf) | (refine brd (fun h => ?_) (fun h => ?_) <;> conv => whnf) | (refine br (fun h => ?_) (fun h => ?_) <;> conv => whnf) | (refine ret_now hE ?_; conv => whnf) | (intro hlen; conv => whnf) | (refine seg_here ?_; conv => whnf) | (refine both ?_ ?_ <;> conv => whnf))
                    all_goals exact ⟨rfl, by rw [hfx]; subst hkq; rfl⟩
                · have hnum : numD 16 6 (w) = none := hnum.trans (if_neg hok)
                  rw [hnum]
                  have hd59 : (d.toNat : Int) = 59 → d = 59 := fun e => UInt8.toNat_inj.1 (by omega)
                  have hil := is_letter (v : Int)
                  cases hb : letB (v : Int)
                  all_goals
                    rw [hb] at hil
                    conv => whnf
                    repeat' (first | (refine brd_t (by first | assumption | omega) ?_; conv => whnf) | (refine brd_f (by first | assumption | omega) ?_; conv => whnf) | (refine ask (by first | assumption | omega) ?_; conv => whnf) | (refine fit64 (by omega) ?_; conv => whnf) | (refine fit (by simp only [kmin, kmax]; omega) ?_; conv => whnf) | (refine br_t (by assumption) ?_; conv => whnf) | (refine br_f (by assumption) ?_; conv => whnf) | (refine get_of (by assumption) ?_; conv => whnf) | (refine get_map (by assumption) ?_; conv => whnf) | (refine call_eq (hdo) hC hasBody_64 ?_ ?_ ?_; kernel_rfl; kernel_rfl; conv => whnf) | (refine callq_eq (hdo) hC hasBody_64 ?_ ?_ ?_; kernel_rfl; kernel_rfl; conv => whnf) | (refine call_eq (hil) hC hasBody_65 ?_ ?_ ?_; kernel_rfl; kernel_rfl; conv => whnf) | (refine callq_eq (hil) hC hasBody_65 ?_ ?_ ?_; kernel_rfl; kernel_rfl; conv => whnf) | (rw [show ((q : Nat) : Int).toNat = q by omega, hgd]; conv => whnf) | (refine draw_lex hE ?_ ?_; decide +kernel; conv => whnf) | (refine brd (fun h => ?_) (fun h => ?_) <;> conv => whnf) | (refine br (fun h => ?_) (fun h => ?_) <;> conv => whnf) | (refine ret_now hE ?_; conv => whnf) | (intro hlen; conv => whnf) | (refine seg_here ?_; conv => whnf) | (refine both ?_ ?_ <;> conv => whnf))
                    all_goals first | exact ⟨rfl, rfl⟩ | (exfalso; exact hok ⟨hd59 (by first | assumption | omega), by omega, by omega⟩)
            · have hqe : T.drop q = [] := List.drop_of_length_le (by omega)
              rw [hqe, scn] at hsc
              rw [← hsc] at hnum
              have hnum : numD 16 6 (w) = none := hnum
              rw [hnum]
              conv => whnf
              repeat' (first | (refine brd_t (by first | assumption | omega) ?_; conv => whnf) | (refine brd_f (by first | assumption | omega) ?_; conv => whnf) | (refine ask (by first | assumption | omega) ?_; conv => whnf) | (refine fit64 (by omega) ?_; conv => whnf) | (refine fit (by simp only [kmin, kmax]; omega) ?_; conv => whnf) | (refine br_t (by assumption) ?_; conv => whnf) | (refine br_f (by assumption) ?_; conv => whnf) | (refine get_of (by assumption) ?_; conv => whnf) | (refine get_map (by assumption) ?_; conv => whnf) | (refine draw_lex hE ?_ ?_; decide +kernel; conv => whnf) | (refine brd (fun h => ?_) (fun h => ?_) <;> conv => whnf) | (refine br (fun h => ?_) (fun h => ?_) <;> conv => whnf) | (refine ret_now hE ?_; conv => whnf) | (intro hlen; conv => whnf) | (refine seg_here ?_; conv => whnf) | (refine both ?_ ?_ <;> conv => whnf))
              all_goals exact ⟨rfl, rfl⟩
        · have hx3 : ¬ ((c.toNat : Int) = 120) := fun e => hx (.inl (UInt8.toNat_inj.1 (by omega)))
          have hx4 : ¬ ((c.toNat : Int) = 88) := fun e => hx (.inr (UInt8.toNat_inj.1 (by omega)))
          rw [docR_dec hx w, ← num_eq (by omega) (c :: w)]
          generalize hT : (38 :: 35 :: c :: w : List UInt8) = T at *
          have hTd : T.drop 2 = c :: w := by rw [← hT]; rfl
          have hTl : T.length = w.length + 3 := by rw [← hT]; rfl
          have hg2 : T[Int.toNat 2]? = some c := by rw [← hT]; rfl
          have hnum : numD 10 7 (c :: w) = match scn 10 7 0 0 (c :: w) with
            | (v, k, d :: _) => if d = 59 ∧ k ≠ 0 ∧ k ≤ 7 then some (fixR v, k + 1) else none
            | _ => none := rfl
          conv => whnf
          repeat' (first | (refine brd_t (by first | assumption | omega) ?_; conv => whnf) | (refine brd_f (by first | assumption | omega) ?_; conv => whnf) | (refine ask (by first | assumption | omega) ?_; conv => whnf) | (refine fit64 (by omega) ?_; conv => whnf) | (refine fit (by simp only [kmin, kmax]; omega) ?_; conv => whnf) | (refine br_t (by assumption) ?_; conv => whnf) | (refine br_f (by assumption) ?_; conv => whnf) | (refine get_of (by assumption) ?_; conv => whnf) | (refine get_map (by assumption) ?_; conv => whnf) | (rw [hg2]; conv => whnf) | (refine draw_lex hE ?_ ?_; decide +kernel; conv => whnf) | (refine brd (fun h => ?_) (fun h => ?_) <;> conv => whnf) | (refine br (fun h => ?_) (fun h => ?_) <;> conv => whnf) | (refine ret_now hE ?_; conv => whnf) | (intro hlen; conv => whnf) | (refine seg_here ?_; conv => whnf) | (refine both ?_ ?_ <;> conv => whnf))
          all_goals try (exfalso; omega)
          all_goals
            refine loopE (fun ((q, v, k) : Nat × Nat × Nat) => ⟨114, [(0, .str T), (8, .int .i64 q), (9, .int .i64 10), (10, .int .i64 7), (11, .int .i64 v), (12, .int .i64 k)], [some (.row 1 [.str [38, 97, 109, 112, 59], .str [38, 108, 116, 59], .str [38, 103, 116, 59], .str [38, 113, 117, 111, 116, 59], .str [38, 110, 98, 115, 112, 59], .str [38, 99, 111, 112, 121, 59]]), some (.row 1 [.int .i64 38, .int .i64 60, .int .i64 62, .int .i64 34, .int .i64 160, .int .i64 169])]⟩)
              (fun (q, v, k) => q ≤ T.length ∧ k + 2 = q ∧ (k ≤ 7 + 1 → v < 16 ^ k) ∧ v < 4294967296 ∧ scn 10 7 v k (T.drop q) = scn 10 7 0 0 (c :: w)) (fun (q, _, _) => T.length - q) (2, 0, 0) hE ?_ ?_ ⟨by show 2 ≤ _; omega, Nat.zero_add _, fun _ => Nat.lt_succ_self _, by show 0 < _; omega, by rw [hTd]⟩ ?_
            · kernel_rfl
            · exact at_keep [0, 8, 9, 10, 11, 12] rfl
            rintro ⟨q, v, k⟩ ⟨hq, hkq, hv1, hv2, hsc⟩
            have hkq : k + 2 = q := hkq
            have hv1 : k ≤ 7 + 1 → v < 16 ^ k := hv1
            have hv2 : v < 4294967296 := hv2
            have hsc : scn 10 7 v k (T.drop q) = scn 10 7 0 0 (c :: w) := hsc
            by_cases hlt : q < T.length
            · obtain ⟨d, r, hd⟩ : ∃ d r, T.drop q = d :: r := by
                cases h : T.drop q with
                | nil => have := congrArg List.length h; simp at this; omega
                | cons d r => exact ⟨d, r, rfl⟩
              have hgd : T[q]? = some d := by rw [← List.head?_drop, hd]; rfl
              have hdr : T.drop (q + 1) = r := by rw [← List.drop_drop, hd]; rfl
              have hdo := digit_of d
              have hdb := d.toNat_lt
              rw [hd, scn] at hsc
              by_cases hdB : dg d < 10
              · rw [if_pos hdB] at hsc
                by_cases hk : k ≤ 7
                · rw [if_pos hk] at hsc
                  have hp : 16 ^ (k + 1) = 16 ^ k * 16 := Nat.pow_succ 16 k
                  have hp2 : 16 ^ (k + 1) ≤ 4294967296 := Nat.pow_le_pow_right (n := 16) (by omega) (show k + 1 ≤ 8 by omega)
                  have hvk := hv1 (by omega)
                  conv => whnf
                  repeat' (first | (refine brd_t (by first | assumption | omega) ?_; conv => whnf) | (refine brd_f (by first | assumption | omega) ?_; conv => whnf) | (refine ask (by first | assumption | omega) ?_; conv => whnf) | (refine fit64 (by omega) ?_; conv => whnf) | (refine fit (by simp only [kmin, kmax]; omega) ?_; conv => whnf) | (refine br_t (by assumption) ?_; conv => whnf) | (refine br_f (by assumption) ?_; conv => whnf) | (refine get_of (by assumption) ?_; conv => whnf) | (refine get_map (by assumption) ?_; conv => whnf) | (refine call_eq (hdo) hC hasBody_64 ?_ ?_ ?_; kernel_rfl; kernel_rfl; conv => whnf) | (refine callq_eq (hdo) hC hasBody_64 ?_ ?_ ?_; kernel_rfl; kernel_rfl; conv => whnf) | (rw [show ((q : Nat) : Int).toNat = q by omega, hgd]; conv => whnf) | (refine draw_lex hE ?_ ?_; decide +kernel; conv => whnf) | (refine brd (fun h => ?_) (fun h => ?_) <;> conv => whnf) | (refine br (fun h => ?_) (fun h => ?_) <;> conv => whnf) | (refine ret_now hE ?_; conv => whnf) | (intro hlen; conv => whnf) | (refine seg_here ?_; conv => whnf) | (refine both ?_ ?_ <;> conv => whnf))
                  all_goals exact next_keep [0, 8, 9, 10, 11, 12] (q + 1, v * 10 + dg d, k + 1) ⟨hlt, by show k + 1 + 2 = q + 1; omega, fun _ => by show _ < 16 ^ (k + 1); omega, by show v * 10 + dg d < _; omega, by show scn _ _ _ _ (T.drop (q + 1)) = _; rw [hdr]; exact hsc⟩ (show T.length - (q + 1) < T.length - q by omega) rfl
                · rw [if_neg hk] at hsc
                  conv => whnf
                  repeat' (first | (refine brd_t (by first | assumption | omega) ?_; conv => whnf) | (refine brd_f (by first | assumption | omega) ?_; conv => whnf) | (refine ask (by first | assumption | omega) ?_; conv => whnf) | (refine fit64 (by omega) ?_; conv => whnf) | (refine fit (by simp only [kmin, kmax]; omega) ?_; conv => whnf) | (refine br_t (by assumption) ?_; conv => whnf) | (refine br_f (by assumption) ?_; conv => whnf) | (refine get_of (by assumption) ?_; conv => whnf) | (refine get_map (by assumption) ?_; conv => whnf) | (refine call_eq (hdo) hC hasBody_64 ?_ ?_ ?_; kernel_rfl; kernel_rfl; conv => whnf) | (refine callq_eq (hdo) hC hasBody_64 ?_ ?_ ?_; kernel_rfl; kernel_rfl; conv => whnf) | (rw [show ((q : Nat) : Int).toNat = q by omega, hgd]; conv => whnf) | (refine draw_lex hE ?_ ?_; decide +kernel; conv => whnf) | (refine brd (fun h => ?_) (fun h => ?_) <;> conv => whnf) | (refine br (fun h => ?_) (fun h => ?_) <;> conv => whnf) | (refine ret_now hE ?_; conv => whnf) | (intro hlen; conv => whnf) | (refine seg_here ?_; conv => whnf) | (refine both ?_ ?_ <;> conv => whnf))
                  all_goals exact next_keep [0, 8, 9, 10, 11, 12] (q + 1, v, k + 1) ⟨hlt, by show k + 1 + 2 = q + 1; omega, fun h => by have h : k + 1 ≤ _ := h; omega, hv2, by show scn _ _ _ _ (T.drop (q + 1)) = _; rw [hdr]; exact hsc⟩ (show T.length - (q + 1) < T.length - q by omega) rfl
              · rw [if_neg hdB] at hsc
                rw [← hsc] at hnum
                have h59 : (59 : UInt8).toNat = 59 := rfl
                by_cases hok : d = 59 ∧ k ≠ 0 ∧ k ≤ 7
                · have hnum : numD 10 7 (c :: w) = some (fixR v, k + 1) := hnum.trans (if_pos hok)
                  rw [hnum]
                  obtain ⟨rfl, hk0, hkl⟩ := hok
                  have hd59 : ((59 : UInt8).toNat : Int) = 59 := rfl
                  have hil := is_letter (v : Int)
                  have hfx : fixR v = if v = 0 ∨ 1114111 < v ∨ letB v = false then 65533 else v := rfl
                  have hlb : letB (v : Int) = true → v ≤ 1114111 := fun h => by unfold letB at h; have := of_decide_eq_true h; omega
                  cases hb : letB (v : Int) with
                  | true =>
                    rw [hb] at hil hfx
                    have hlb := hlb hb
                    by_cases h0 : v = 0
                    · rw [if_pos (.inl h0)] at hfx
                      conv => whnf
                      repeat' (first | (refine brd_t (by first | assumption | omega) ?_; conv => whnf) | (refine brd_f (by first | assumption | omega) ?_; conv => whnf) | (refine ask (by first | assumption | omega) ?_; conv => whnf) | (refine fit64 (by omega) ?_; conv => whnf) | (refine fit (by simp only [kmin, kmax]; omega) ?_; conv => whnf) | (refine br_t (by assumption) ?_; conv => whnf) | (refine br_f (by assumption) ?_; conv => whnf) | (refine get_of (by assumption) ?_; conv => whnf) | (refine get_map (by assumption) ?_; conv => whnf) | (refine call_eq (hdo) hC hasBody_64 ?_ ?_ ?_; kernel_rfl; kernel_rfl; conv => whnf) | (refine callq_eq (hdo) hC hasBody_64 ?_ ?_ ?_; kernel_rfl; kernel_rfl; conv => whnf) | (refine call_eq (hil) hC hasBody_65 ?_ ?_ ?_; kernel_rfl; kernel_rfl; conv => whnf) | (refine callq_eq (hil) hC hasBody_65 ?_ ?_ ?_; kernel_rfl; kernel_rfl; conv => whnf) | (rw [show ((q : Nat) : Int).toNat = q by omega, hgd]; conv => whnf) | (refine draw_lex hE ?_ ?_; decide +kernel; conv => whnf) | (refine brd (fun h => ?_) (fun h => ?_) <;> conv => whnf) | (refine br (fun h => ?_) (fun h => ?_) <;> conv => whnf) | (refine ret_now hE ?_; conv => whnf) | (intro hlen; conv => whnf) | (refine seg_here ?_; conv => whnf) | (refine both ?_ ?_ <;> conv => whnf))
                      all_goals exact ⟨rfl, by rw [hfx]; subst hkq; rfl⟩
                    · rw [if_neg (by intro h; rcases h with h | h | h; exact h0 h; omega; cases h)] at hfx
                      conv => whnf
                      repeat' (first | (refine brd_t (by first | assumption | omega) ?_; conv => whnf) | (refine brd_f (by first | assumption | omega) ?_; conv => whnf) | (refine ask (by first | assumption | omega) ?_; conv => whnf) | (refine fit64 (by omega) ?_; conv => whnf) | (refine fit (by simp only [kmin, kmax]; omega) ?_; conv => whnf) | (refine br_t (by assumption) ?_; conv => whnf) | (refine br_f (by assumption) ?_; conv => whnf) | (refine get_of (by assumption) ?_; conv => whnf) | (refine get_map (by assumption) ?_; conv => whnf) | (refine call_eq (hdo) hC hasBody_64 ?_ ?_ ?_; kernel_rfl; kernel_rfl; conv => whnf) | (refine callq_eq (hdo) hC hasBody_64 ?_ ?_ ?_; kernel_rfl; kernel_rfl; conv => whnf) | (refine call_eq (hil) hC hasBody_65 ?_ ?_ ?_; kernel_rfl; kernel_rfl; conv => whnf) | (refine callq_eq (hil) hC hasBody_65 ?_ ?_ ?_; kernel_rfl; kernel_rfl; conv => whnf) | (rw [show ((q : Nat) : Int).toNat = q by omega, hgd]; conv => whnf) | (refine draw_lex hE ?_ ?_; decide +kernel; conv => whnf) | (refine brd (fun h => ?_) (fun h => ?_) <;> conv => whnf) | (refine br (fun h => ?_) (fun h => ?_) <;> conv => whnf) | (refine ret_now hE ?_; conv => whnf) | (intro hlen; conv => whnf) | (refine seg_here ?_; conv => whnf) | (refine both ?_ ?_ <;> conv => whnf))
                      all_goals exact ⟨rfl, by rw [hfx]; subst hkq; rfl⟩
                  | false =>
                    rw [hb] at hil hfx
                    rw [if_pos (.inr (.inr rfl))] at hfx
                    conv => whnf
                    repeat' (first | (refine brd_t (by first | assumption | omega) ?_; conv => whnf) | (refine brd_f (by first | assumption | omega) ?_; conv => whnf) | (refine ask (by first | assumption | omega) ?_; conv => whnf) | (refine fit64 (by omega) ?_; conv => whnf) | (refine fit (by simp only [kmin, kmax]; omega) ?_; conv => whnf) | (refine br_t (by assumption) ?_; conv => whnf) | (refine br_f (by assumption) ?_; conv => whnf) | (refine get_of (by assumption) ?_; conv => whnf) | (refine get_map (by assumption) ?_; conv => whnf) | (refine call_eq (hdo) hC hasBody_64 ?_ ?_ ?_; kernel_rfl; kernel_rfl; conv => whnf) | (refine callq_eq (hdo) hC hasBody_64 ?_ ?_ ?_; kernel_rfl; kernel_rfl; conv => whnf) | (refine call_eq (hil) hC hasBody_65 ?_ ?_ ?_; kernel_rfl; kernel_rfl; conv => whnf) | (refine callq_eq (hil) hC hasBody_65 ?_ ?_ ?_; kernel_rfl; kernel_rfl; conv => whnf) | (rw [show ((q : Nat) : Int).toNat = q by omega, hgd]; conv => whnf) | (refine draw_lex hE ?_ ?_; decide +kernel; conv => whnf) | (refine brd (fun h => ?_) (fun h => ?_) <;> conv => whnf) | (refine br (fun h => ?_) (fun h => ?_) <;> conv => whnf) | (refine ret_now hE ?_; conv => whnf) | (intro hlen; conv => whnf) | (refine seg_here ?_; conv => whnf) | (refine both ?_ ?_ <;> conv => whnf))
                    all_goals exact ⟨rfl, by rw [hfx]; subst hkq; rfl⟩
                · have hnum : numD 10 7 (c :: w) = none := hnum.trans (if_neg hok)
                  rw [hnum]
                  have hd59 : (d.toNat : Int) = 59 → d = 59 := fun e => UInt8.toNat_inj.1 (by omega)
                  have hil := is_letter (v : Int)
                  cases hb : letB (v : Int)
                  all_goals
                    rw [hb] at hil
                    conv => whnf
                    repeat' (first | (refine brd_t (by first | assumption | omega) ?_; conv => whnf) | (refine brd_f (by first | assumption | omega) ?_; conv => whnf) | (refine ask (by first | assumption | omega) ?_; conv => whnf) | (refine fit64 (by omega) ?_; conv => whnf) | (refine fit (by simp only [kmin, kmax]; omega) ?_; conv => whnf) | (refine br_t (by assumption) ?_; conv => whnf) | (refine br_f (by assumption) ?_; conv => whnf) | (refine get_of (by assumption) ?_; conv => whnf) | (refine get_map (by assumption) ?_; conv => whnf) | (refine call_eq (hdo) hC hasBody_64 ?_ ?_ ?_; kernel_rfl; kernel_rfl; conv => whnf) | (refine callq_eq (hdo) hC hasBody_64 ?_ ?_ ?_; kernel_rfl; kernel_rfl; conv => whnf) | (refine call_eq (hil) hC hasBody_65 ?_ ?_ ?_; kernel_rfl; kernel_rfl; conv => whnf) | (refine callq_eq (hil) hC hasBody_65 ?_ ?_ ?_; kernel_rfl; kernel_rfl; conv => whnf) | (rw [show ((q : Nat) : Int).toNat = q by omega, hgd]; conv => whnf) | (refine draw_lex hE ?_ ?_; decide +kernel; conv => whnf) | (refine brd (fun h => ?_) (fun h => ?_) <;> conv => whnf) | (refine br (fun h => ?_) (fun h => ?_) <;> conv => whnf) | (refine ret_now hE ?_; conv => whnf) | (intro hlen; conv => whnf) | (refine seg_here ?_; conv => whnf) | (refine both ?_ ?_ <;> conv => whnf))
                    all_goals first | exact ⟨rfl, rfl⟩ | (exfalso; exact hok ⟨hd59 (by first | assumption | omega), by omega, by omega⟩)
            · have hqe : T.drop q = [] := List.drop_of_length_le (by omega)
              rw [hqe, scn] at hsc
              rw [← hsc] at hnum
              have hnum : numD 10 7 (c :: w) = none := hnum
              rw [hnum]
              conv => whnf
              repeat' (first | (refine brd_t (by first | assumption | omega) ?_; conv => whnf) | (refine brd_f (by first | assumption | omega) ?_; conv => whnf) | (refine ask (by first | assumption | omega) ?_; conv => whnf) | (refine fit64 (by omega) ?_; conv => whnf) | (refine fit (by simp only [kmin, kmax]; omega) ?_; conv => whnf) | (refine br_t (by assumption) ?_; conv => whnf) | (refine br_f (by assumption) ?_; conv => whnf) | (refine get_of (by assumption) ?_; conv => whnf) | (refine get_map (by assumption) ?_; conv => whnf) | (refine draw_lex hE ?_ ?_; decide +kernel; conv => whnf) | (refine brd (fun h => ?_) (fun h => ?_) <;> conv => whnf) | (refine br (fun h => ?_) (fun h => ?_) <;> conv => whnf) | (refine ret_now hE ?_; conv => whnf) | (intro hlen; conv => whnf) | (refine seg_here ?_; conv => whnf) | (refine both ?_ ?_ <;> conv => whnf))
              all_goals exact ⟨rfl, rfl⟩
      · have hp := docR_plain t hno (.inr h35)
        have h35b : ¬ (t.take (Int.toNat 2) = [38, 35]) := h35
        conv => whnf
        repeat' (first | (refine brd_t (by first | assumption | omega) ?_; conv => whnf) | (refine brd_f (by first | assumption | omega) ?_; conv => whnf) | (refine ask (by first | assumption | omega) ?_; conv => whnf) | (refine fit64 (by omega) ?_; conv => whnf) | (refine fit (by simp only [kmin, kmax]; omega) ?_; conv => whnf) | (refine br_t (by assumption) ?_; conv => whnf) | (refine br_f (by assumption) ?_; conv => whnf) | (refine get_of (by assumption) ?_; conv => whnf) | (refine get_map (by assumption) ?_; conv => whnf) | (refine draw_lex hE ?_ ?_; decide +kernel; conv => whnf) | (refine brd (fun h => ?_) (fun h => ?_) <;> conv => whnf) | (refine br (fun h => ?_) (fun h => ?_) <;> conv => whnf) | (refine ret_now hE ?_; conv => whnf) | (intro hlen; conv => whnf) | (refine seg_here ?_; conv => whnf) | (refine both ?_ ?_ <;> conv => whnf))
        all_goals exact ⟨rfl, by rw [hp]; rfl⟩
  | k + 7, hk, _ => exact absurd hk (by omega)
end Go.Proofs.YtaeeceabnkgnnaaDoor

/-! The document's RefUnescape, walked; the law. No conditions. -/
namespace Go.Proofs.YtaeeceabnkgnnaaDoor
open Go.RowKit

theorem une_step (n : Nat) (c : UInt8) (r : List UInt8) : uneP (n + 1) (c :: r) = match docR (c :: r) with
    | some p => runeB p.1 ++ uneP n ((c :: r).drop p.2)
    | none => c :: uneP n r := by
  rw [uneP, docR_cons]
  by_cases hc : c = 38
  · rw [if_pos hc, if_pos hc]
    cases hs : spl r with
    | none => rfl
    | some p =>
      obtain ⟨nm, rest⟩ := p
      have hr := spl_eq hs
      simp only
      cases letR nm with
      | none => rfl
      | some m =>
        have hd : (c :: r).drop (nm.length + 2) = rest := by rw [hr]; simp
        simp only [Option.map_some]
        rw [hd]
  · rw [if_neg hc, if_neg hc]
theorem docR_some {c : UInt8} {r : List UInt8} {p : Nat × Nat} (h : docR (c :: r) = some p) : 4 ≤ p.2 ∧ p.2 ≤ r.length + 1 ∧ letB p.1 = true := by
  rw [docR_cons] at h
  split at h
  · cases hs : spl r with
    | none => rw [hs] at h; cases h
    | some q =>
      obtain ⟨nm, rest⟩ := q
      rw [hs] at h
      obtain ⟨m, hm, rfl⟩ := Option.map_eq_some_iff.1 h
      have hl : 2 ≤ nm.length ∧ letB m = true := letR_some hm
      have hr := spl_eq hs
      have : r.length = nm.length + 1 + rest.length := by rw [hr]; simp; omega
      exact ⟨by show 4 ≤ nm.length + 2; omega, by show nm.length + 2 ≤ _; omega, hl.2⟩
  · cases h
set_option maxHeartbeats 8000000 in
theorem doc_unescape (s : List UInt8) (hs : s.length ≤ 140737488351232) : Fn1 Tryd.prog 18 [.str s] (fun v => v = .str (uneP (s.length + 1) s)) := by
  refine fn1E (T := Tryd.tt) Tryd.func18 rfl tt_all follows_all ?_ ?_ fun C hC hE => ?_
  · kernel_rfl
  · exact Nat.le_of_ble_eq_true (by kernel_rfl)
  conv => whnf
  repeat' (first | (refine brd_t (by first | assumption | omega) ?_; conv => whnf) | (refine brd_f (by first | assumption | omega) ?_; conv => whnf) | (refine ask (by first | assumption | omega) ?_; conv => whnf) | (refine fit64 (by omega) ?_; conv => whnf) | (refine fit (by simp only [kmin, kmax]; omega) ?_; conv => whnf) | (refine br_t (by assumption) ?_; conv => whnf) | (refine br_f (by assumption) ?_; conv => whnf) | (refine get_of (by assumption) ?_; conv => whnf) | (refine get_map (by assumption) ?_; conv => whnf) | (refine draw_lex hE ?_ ?_; decide +kernel; conv => whnf) | (refine brd (fun h => ?_) (fun h => ?_) <;> conv => whnf) | (refine br (fun h => ?_) (fun h => ?_) <;> conv => whnf) | (refine ret_now hE ?_; conv => whnf) | (intro hlen; conv => whnf) | (refine seg_here ?_; conv => whnf) | (refine both ?_ ?_ <;> conv => whnf))
  refine loopE (fun ((n, t, out) : Nat × List UInt8 × List UInt8) => ⟨31, [(0, .str t), (3, .str out)], []⟩)
    (fun (n, t, out) => t.length < n ∧ out.length + t.length ≤ s.length ∧ out ++ uneP n t = uneP (s.length + 1) s) (fun (n, _, _) => n) (s.length + 1, s, []) hE ?_ ?_ ⟨Nat.lt_succ_self _, Nat.le_of_eq (Nat.zero_add _), rfl⟩ ?_
  · kernel_rfl
  · exact at_keep [0, 3] rfl
  rintro ⟨n, t, out⟩ ⟨hn, ho, hI⟩
  have hn : t.length < n := hn
  have ho : out.length + t.length ≤ s.length := ho
  have hI : out ++ uneP n t = uneP (s.length + 1) s := hI
  cases n with
  | zero => omega
  | succ n =>
  cases t with
  | nil =>
    have hl0 : ([] : List UInt8).length = 0 := rfl
    rw [uneP, List.append_nil] at hI
    conv => whnf
    repeat' (first | (refine brd_t (by first | assumption | omega) ?_; conv => whnf) | (refine brd_f (by first | assumption | omega) ?_; conv => whnf) | (refine ask (by first | assumption | omega) ?_; conv => whnf) | (refine fit64 (by omega) ?_; conv => whnf) | (refine fit (by simp only [kmin, kmax]; omega) ?_; conv => whnf) | (refine br_t (by assumption) ?_; conv => whnf) | (refine br_f (by assumption) ?_; conv => whnf) | (refine get_of (by assumption) ?_; conv => whnf) | (refine get_map (by assumption) ?_; conv => whnf) | (refine draw_lex hE ?_ ?_; decide +kernel; conv => whnf) | (refine brd (fun h => ?_) (fun h => ?_) <;> conv => whnf) | (refine br (fun h => ?_) (fun h => ?_) <;> conv => whnf) | (refine ret_now hE ?_; conv => whnf) | (intro hlen; conv => whnf) | (refine seg_here ?_; conv => whnf) | (refine both ?_ ?_ <;> conv => whnf))
    all_goals exact ⟨rfl, by rw [hI]⟩
  | cons c r =>
    have hra := ref_at (c :: r) (by omega)
    rw [une_step] at hI
    have hl1 : 0 < (c :: r).length := by simp
    have hl2 : (1 : Int).toNat ≤ (c :: r).length := by show 1 ≤ _; simp
    have hlc : (c :: r).length = r.length + 1 := rfl
    cases hd : docR (c :: r) with
    | none =>
      rw [hd] at hra hI
      have hra : Fn1 Tryd.prog 38 [.str (c :: r)] (fun v => v = .tup [.int .i64 0, .int .i64 0]) := hra
      simp only at hI
      have ht1 : (c :: r).take (Int.toNat 1) = [c] := rfl
      conv => whnf
      repeat' (first | (refine brd_t (by first | assumption | omega) ?_; conv => whnf) | (refine brd_f (by first | assumption | omega) ?_; conv => whnf) | (refine ask (by first | assumption | omega) ?_; conv => whnf) | (refine fit64 (by omega) ?_; conv => whnf) | (refine fit (by simp only [kmin, kmax]; omega) ?_; conv => whnf) | (refine br_t (by assumption) ?_; conv => whnf) | (refine br_f (by assumption) ?_; conv => whnf) | (refine get_of (by assumption) ?_; conv => whnf) | (refine get_map (by assumption) ?_; conv => whnf) | (refine call_eq (hra) hC hasBody_38 ?_ ?_ ?_; kernel_rfl; kernel_rfl; conv => whnf) | (refine callq_eq (hra) hC hasBody_38 ?_ ?_ ?_; kernel_rfl; kernel_rfl; conv => whnf) | (refine ask (show out.length + [c].length ≤ _ by show out.length + 1 ≤ _; omega) ?_; conv => whnf) | (refine draw_lex hE ?_ ?_; decide +kernel; conv => whnf) | (refine brd (fun h => ?_) (fun h => ?_) <;> conv => whnf) | (refine br (fun h => ?_) (fun h => ?_) <;> conv => whnf) | (refine ret_now hE ?_; conv => whnf) | (intro hlen; conv => whnf) | (refine seg_here ?_; conv => whnf) | (refine both ?_ ?_ <;> conv => whnf))
      all_goals exact next_keep [0, 3] (n, r, out ++ [c]) ⟨by show r.length < n; omega, by show (out ++ [c]).length + r.length ≤ _; rw [List.length_append, List.length_singleton]; omega, by rw [← hI]; simp⟩ (Nat.lt_succ_self n) rfl
    | some p =>
      obtain ⟨m, k⟩ := p
      rw [hd] at hra hI
      obtain ⟨hk4, hkl, hlb⟩ := docR_some hd
      have hk4 : 4 ≤ k := hk4
      have hkl : k ≤ r.length + 1 := hkl
      have hra : Fn1 Tryd.prog 38 [.str (c :: r)] (fun v => v = .tup [.int .i64 (m : Nat), .int .i64 (k : Nat)]) := hra
      have hub := utf_bytes (m : Int) hlb
      have hrb := rbLen (m : Int)
      have hkn : ((k : Nat) : Int).toNat ≤ (c :: r).length := by rw [hlc]; omega
      simp only at hI
      have hcb := cells_b (m : Int)
      generalize hB : runeB (m : Int) = bs at *
      have hbm : (bs.map byteV).length = bs.length := by simp
      conv => whnf
      repeat' (first | (refine brd_t (by first | assumption | omega) ?_; conv => whnf) | (refine brd_f (by first | assumption | omega) ?_; conv => whnf) | (refine ask (by first | assumption | omega) ?_; conv => whnf) | (refine fit64 (by omega) ?_; conv => whnf) | (refine fit (by simp only [kmin, kmax]; omega) ?_; conv => whnf) | (refine br_t (by assumption) ?_; conv => whnf) | (refine br_f (by assumption) ?_; conv => whnf) | (refine get_of (by assumption) ?_; conv => whnf) | (refine get_map (by assumption) ?_; conv => whnf) | (refine call_eq (hra) hC hasBody_38 ?_ ?_ ?_; kernel_rfl; kernel_rfl; conv => whnf) | (refine callq_eq (hra) hC hasBody_38 ?_ ?_ ?_; kernel_rfl; kernel_rfl; conv => whnf) | (refine call_eq (hub) hC hasBody_39 ?_ ?_ ?_; kernel_rfl; kernel_rfl; conv => whnf) | (refine callq_eq (hub) hC hasBody_39 ?_ ?_ ?_; kernel_rfl; kernel_rfl; conv => whnf) | (refine ⟨hcb, bs, rfl, by omega, ?_⟩; conv => whnf) | (refine ask (show out.length + bs.length ≤ _ by omega) ?_; conv => whnf) | (refine draw_lex hE ?_ ?_; decide +kernel; conv => whnf) | (refine brd (fun h => ?_) (fun h => ?_) <;> conv => whnf) | (refine br (fun h => ?_) (fun h => ?_) <;> conv => whnf) | (refine ret_now hE ?_; conv => whnf) | (intro hlen; conv => whnf) | (refine seg_here ?_; conv => whnf) | (refine both ?_ ?_ <;> conv => whnf))
      all_goals exact next_keep [0, 3] (n, (c :: r).drop k, out ++ bs) ⟨by show ((c :: r).drop k).length < n; rw [List.length_drop]; omega, by show (out ++ bs).length + ((c :: r).drop k).length ≤ _; rw [List.length_append, List.length_drop]; omega, by rw [← hI]; simp⟩ (Nat.lt_succ_self n) rfl
theorem refUnescapes_law (s : List UInt8) (hs : s.length ≤ 140737488351232) : Fn1G Tryd.prog GE 7 [.str s] (fun r => r = .bool true) := by
  have hr := doc_unescape s hs
  refine fn1GE (T := Tryd.tt) Tryd.func7 rfl tt_all follows_all ?_ ?_ fun C hC hW hG hE => ?_
  · kernel_rfl
  · exact Nat.le_of_ble_eq_true (by kernel_rfl)
  conv => whnf
  have hc := (ref_unescape s hs).c hC hW kept_ge hG
  generalize uneP (s.length + 1) s = o at *
  repeat' (first | (refine brd_t (by first | assumption | omega) ?_; conv => whnf) | (refine brd_f (by first | assumption | omega) ?_; conv => whnf) | (refine ask (by first | assumption | omega) ?_; conv => whnf) | (refine fit64 (by omega) ?_; conv => whnf) | (refine fit (by simp only [kmin, kmax]; omega) ?_; conv => whnf) | (refine br_t (by assumption) ?_; conv => whnf) | (refine br_f (by assumption) ?_; conv => whnf) | (refine get_of (by assumption) ?_; conv => whnf) | (refine get_map (by assumption) ?_; conv => whnf) | (refine callc_eq (hc) hC hasBody_17 rfl ?_ ?_ ?_; kernel_rfl; kernel_rfl; conv => whnf) | (refine callcq_eq (hc) hC hasBody_17 rfl ?_ ?_ ?_; kernel_rfl; kernel_rfl; conv => whnf) | (refine call_eq (hr) hC hasBody_18 ?_ ?_ ?_; kernel_rfl; kernel_rfl; conv => whnf) | (refine callq_eq (hr) hC hasBody_18 ?_ ?_ ?_; kernel_rfl; kernel_rfl; conv => whnf) | (refine brd_t rfl ?_; conv => whnf) | (refine draw_lex hE ?_ ?_; decide +kernel; conv => whnf) | (refine brd (fun h => ?_) (fun h => ?_) <;> conv => whnf) | (refine br (fun h => ?_) (fun h => ?_) <;> conv => whnf) | (refine ret_now hE ?_; conv => whnf) | (intro hlen; conv => whnf) | (refine seg_here ?_; conv => whnf) | (refine both ?_ ?_ <;> conv => whnf))
  all_goals exact ⟨rfl, rfl⟩
end Go.Proofs.YtaeeceabnkgnnaaDoor
