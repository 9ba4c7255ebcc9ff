/- Plain law: numbers read letter by letter are the numbers that are cut out. No conditions. -/
import Derived.Test.YtaeeceabnkgnnaaDoorZWr
/-! ref.Unescape, walked. No conditions. -/
set_option linter.unusedSimpArgs false
set_option linter.unusedVariables false
set_option maxRecDepth 100000
namespace Go.Proofs.YtaeeceabnkgnnaaDoor
open Go.RowKit

/-- Up to the first ';', and behind it. -/
def spl : List UInt8 → Option (List UInt8 × List UInt8)
  | [] => none
  | c :: r => if c = 59 then some ([], r) else (match spl r with | some p => some (c :: p.1, p.2) | none => none)
theorem spl_eq : ∀ {r nm rest : List UInt8}, spl r = some (nm, rest) → r = nm ++ 59 :: rest
  | [], _, _, h => by cases h
  | c :: r, nm, rest, h => by
    rw [spl] at h
    split at h
    · rename_i hc
      cases h
      rw [hc]
      rfl
    · split at h
      · rename_i p hp
        cases h
        rw [List.cons_append, ← spl_eq (r := r) (nm := p.1) (rest := p.2) hp]
      · cases h
theorem spl_idx : ∀ r : List UInt8, Lib.indexByte r 59 = match spl r with | some p => (p.1.length : Int) | none => -1
  | [] => rfl
  | c :: r => by
    rw [Lib.indexByte, spl]
    by_cases hc : c = 59
    · rw [if_pos (by simp [hc]), if_pos hc]
      rfl
    · rw [if_neg (by simpa using hc), if_neg hc, spl_idx r]
      cases spl r with
      | none => rfl
      | some p =>
        have : ¬ (((p.1.length : Int) == -1) = true) := by simp <;> omega
        simp only [if_neg this, List.length_cons]
        omega
def uneP : Nat → List UInt8 → List UInt8
  | 0, _ => []
  | _ + 1, [] => []
  | n + 1, c :: r => if c = 38 then (match spl r with
    | some p => (match letR p.1 with | some m => runeB m ++ uneP n p.2 | none => c :: uneP n r)
    | none => c :: uneP n r) else c :: uneP n r
theorem letR_some {nm : List UInt8} {m : Nat} (h : letR nm = some m) : 2 ≤ nm.length ∧ letB m = true := by
  have hfix : ∀ x : Nat, letB (fixR x : Nat) = true := by
    intro x
    unfold fixR
    split
    · decide
    · rename_i hx
      have : ¬ letB (x : Int) = false := fun e => hx (.inr (.inr e))
      simpa using this
  have hnum : ∀ {B L : Nat} {s : List UInt8} {m : Nat}, numR B L s = some m → s ≠ [] ∧ letB m = true := by
    intro B L s m hm
    unfold numR at hm
    split at hm
    · cases hm
    · rename_i hh
      obtain ⟨x, _, rfl⟩ := Option.map_eq_some_iff.1 hm
      exact ⟨fun e => hh (.inl e), hfix x⟩
  unfold letR at h
  split at h
  · rename_i hc
    cases nm with
    | nil => simp [cutH] at hc
    | cons c r =>
      by_cases h35 : c = 35
      · have e : cutH (c :: r) = (r, true) := if_pos h35
        rw [e] at h
        cases r with
        | nil => simp at h
        | cons d r =>
          simp only at h
          split at h
          · exact ⟨by simp, (hnum h).2⟩
          · exact ⟨by simp, (hnum h).2⟩
      · have e : cutH (c :: r) = (c :: r, false) := if_neg h35
        rw [e] at hc
        simp at hc
  · split at h
    · cases h
    · cases h
      rename_i h0
      unfold nmT at h0 ⊢
      (repeat' split) <;> first | (subst_vars; exact ⟨by simp, by decide⟩) | (exfalso; simp_all; done)
set_option maxHeartbeats 16000000 in
theorem ref_unescape (s : List UInt8) (hs : s.length ≤ 140737488351232) : Fn1G Tryd.prog GE 17 [.str s] (fun r => r = .str (uneP (s.length + 1) s)) := by
  refine fn1GE (T := Tryd.tt) Tryd.func17 rfl tt_all follows_all ?_ ?_ fun C hC hW hG hE => ?_
  · kernel_rfl
  · exact Nat.le_of_ble_eq_true (by kernel_rfl)
  conv => whnf
  refine loopE (fun ((n, i, out) : Nat × Nat × List UInt8) => ⟨46, [(0, .str s), (3, .ptr 0 0 0), (4, .int .i64 i)], [some (.bld 47 (some (1, out.length))), some (.buf 5 out)]⟩)
    (fun (n, i, out) => i ≤ s.length ∧ s.length - i < n ∧ out.length + (s.length - i) ≤ s.length ∧ out ++ uneP n (s.drop i) = uneP (s.length + 1) s) (fun (n, _, _) => n) (s.length + 1, 0, []) hE ?_ ?_ ⟨Nat.zero_le _, by show s.length - 0 < _; omega, by show 0 + _ ≤ _; omega, rfl⟩ ?_
  · kernel_rfl
  · exact up_buf 0 5 rfl (at_keep [0, 3, 4] rfl)
  rintro ⟨n, i, out⟩ ⟨hi, hn, ho, hI⟩
  have hn : s.length - i < n := hn
  have ho : out.length + (s.length - i) ≤ s.length := ho
  have hI : out ++ uneP n (s.drop i) = uneP (s.length + 1) s := hI
  cases n with
  | zero => omega
  | succ n =>
  by_cases hlt : i < s.length
  · obtain ⟨c, r, hd⟩ : ∃ c r, s.drop i = c :: r := by
      cases h : s.drop i with
      | nil => have := congrArg List.length h; simp at this; omega
      | cons c r => exact ⟨c, r, rfl⟩
    have hc : s[i]? = some c := by rw [← List.head?_drop, hd]; rfl
    have hdr : s.drop (i + 1) = r := by rw [← List.drop_drop, hd]; rfl
    have hrl : r.length + 1 = s.length - i := by have := congrArg List.length hd; simp at this; omega
    rw [hd, uneP] at hI
    by_cases h38 : c = 38
    · rw [if_pos h38] at hI
      have hc38 : (c.toNat : Int) = 38 := by rw [h38]; rfl
      have hixa := idx_byte (s.drop ((i : Int)).toNat) 59
      have hidx : Lib.indexByte (s.drop ((i : Int)).toNat) 59 = match spl r with | some p => ((p.1.length + 1 : Nat) : Int) | none => -1 := by
        rw [show ((i : Int)).toNat = i by omega, hd, Lib.indexByte, if_neg (by rw [h38]; decide), spl_idx r]
        cases spl r with
        | none => rfl
        | some p =>
          have : ¬ (((p.1.length : Int) == -1) = true) := by simp <;> omega
          simp only [if_neg this]
          omega
      rw [hidx] at hixa
      cases hsp : spl r with
      | none =>
        rw [hsp] at hixa hI
        have hix : Fn1 Tryd.prog 33 [.str (s.drop ((i : Int)).toNat), .int .u8 59] (fun v => v = .int .i64 (-1)) := hixa
        simp only at hI
        conv => whnf
        repeat' (first | (refine brd_t (by first | assumption | omega) ?_; conv => whnf) | (refine brd_f (by first | assumption | omega) ?_; conv => whnf) | (refine ask (by first | assumption | omega) ?_; conv => whnf) | (refine fit64 (by omega) ?_; conv => whnf) | (refine fit (by simp only [kmin, kmax]; omega) ?_; conv => whnf) | (refine br_t (by assumption) ?_; conv => whnf) | (refine br_f (by assumption) ?_; conv => whnf) | (refine get_of (by assumption) ?_; conv => whnf) | (refine get_map (by assumption) ?_; conv => whnf) | (refine call_eq (hix) hC hasBody_33 ?_ ?_ ?_; kernel_rfl; kernel_rfl; conv => whnf) | (refine callq_eq (hix) hC hasBody_33 ?_ ?_ ?_; kernel_rfl; kernel_rfl; conv => whnf) | (refine call_wb hC 0 1 (by decide) c (by omega) rfl rfl rfl rfl ?_; conv => whnf) | (refine draw_lex hE ?_ ?_; decide +kernel; conv => whnf) | (refine brd (fun h => ?_) (fun h => ?_) <;> conv => whnf) | (refine br (fun h => ?_) (fun h => ?_) <;> conv => whnf) | (refine ret_now hE ?_; conv => whnf) | (intro hlen; conv => whnf) | (refine seg_here ?_; conv => whnf) | (refine both ?_ ?_ <;> conv => whnf))
        all_goals exact next_keep [0, 3, 4] (n, i + 1, out ++ [c]) ⟨hlt, by omega, by show (out ++ [c]).length + _ ≤ _; rw [List.length_append, List.length_singleton]; omega, by rw [hdr, ← hI]; simp⟩ (Nat.lt_succ_self n) rfl
      | some p =>
        obtain ⟨nm, rest⟩ := p
        rw [hsp] at hixa hI
        have hrn := spl_eq hsp
        have hrl2 : nm.length + 1 + rest.length = r.length := by rw [hrn]; simp; omega
        obtain ⟨J, hJ⟩ : ∃ J, nm.length + 1 = J := ⟨_, rfl⟩
        have hix : Fn1 Tryd.prog 33 [.str (s.drop ((i : Int)).toNat), .int .u8 59] (fun v => v = .int .i64 (J : Nat)) := by rw [← hJ]; exact hixa
        have hsl : (s.take ((i : Int) + (J : Int)).toNat).drop ((i : Int) + 1).toNat = nm := by
          rw [show ((i : Int) + (J : Int)).toNat = i + J by omega, show ((i : Int) + 1).toNat = i + 1 by omega, List.drop_take, hdr, hrn, ← hJ, show i + (nm.length + 1) - (i + 1) = nm.length by omega, List.take_left']
          rfl
        have hlw := letter_walk nm
        rw [← hsl] at hlw
        have hdr2 : s.drop (i + J + 1) = rest := by
          rw [show i + J + 1 = i + 1 + J by omega, ← List.drop_drop, hdr, hrn, ← hJ]
          simp
        simp only at hI
        rw [← hsl] at hI
        cases hlt2 : letR ((s.take ((i : Int) + (J : Int)).toNat).drop ((i : Int) + 1).toNat) with
        | none =>
          rw [hlt2] at hlw hI
          have hlw : Fn1G Tryd.prog GE 34 [.str ((s.take ((i : Int) + (J : Int)).toNat).drop ((i : Int) + 1).toNat)] (fun v => v = .tup [.int .i32 0, .bool false]) := hlw
          have hlc := hlw.c hC hW kept_ge hG
          simp only at hI
          conv => whnf
          repeat' (first | (refine brd_t (by first | assumption | omega) ?_; conv => whnf) | (refine brd_f (by first | assumption | omega) ?_; conv => whnf) | (refine ask (by first | assumption | omega) ?_; conv => whnf) | (refine fit64 (by omega) ?_; conv => whnf) | (refine fit (by simp only [kmin, kmax]; omega) ?_; conv => whnf) | (refine br_t (by assumption) ?_; conv => whnf) | (refine br_f (by assumption) ?_; conv => whnf) | (refine get_of (by assumption) ?_; conv => whnf) | (refine get_map (by assumption) ?_; conv => whnf) | (refine call_eq (hix) hC hasBody_33 ?_ ?_ ?_; kernel_rfl; kernel_rfl; conv => whnf) | (refine callq_eq (hix) hC hasBody_33 ?_ ?_ ?_; kernel_rfl; kernel_rfl; conv => whnf) | (refine callc_eq (hlc) hC hasBody_34 rfl ?_ ?_ ?_; kernel_rfl; kernel_rfl; conv => whnf) | (refine callcq_eq (hlc) hC hasBody_34 rfl ?_ ?_ ?_; kernel_rfl; kernel_rfl; conv => whnf) | (refine call_wb hC 0 1 (by decide) c (by omega) rfl rfl rfl rfl ?_; conv => whnf) | (refine draw_lex hE ?_ ?_; decide +kernel; conv => whnf) | (refine brd (fun h => ?_) (fun h => ?_) <;> conv => whnf) | (refine br (fun h => ?_) (fun h => ?_) <;> conv => whnf) | (refine ret_now hE ?_; conv => whnf) | (intro hlen; conv => whnf) | (refine seg_here ?_; conv => whnf) | (refine both ?_ ?_ <;> conv => whnf))
          all_goals exact next_keep [0, 3, 4] (n, i + 1, out ++ [c]) ⟨hlt, by omega, by show (out ++ [c]).length + _ ≤ _; rw [List.length_append, List.length_singleton]; omega, by rw [hdr, ← hI]; simp⟩ (Nat.lt_succ_self n) rfl
        | some m =>
          rw [hlt2] at hlw hI
          have hlw : Fn1G Tryd.prog GE 34 [.str ((s.take ((i : Int) + (J : Int)).toNat).drop ((i : Int) + 1).toNat)] (fun v => v = .tup [.int .i32 (m : Nat), .bool true]) := hlw
          have hlc := hlw.c hC hW kept_ge hG
          have hls := letR_some hlt2
          rw [hsl] at hls
          have hrb := rbLen (m : Int)
          simp only at hI
          conv => whnf
          repeat' (first | (refine brd_t (by first | assumption | omega) ?_; conv => whnf) | (refine brd_f (by first | assumption | omega) ?_; conv => whnf) | (refine ask (by first | assumption | omega) ?_; conv => whnf) | (refine fit64 (by omega) ?_; conv => whnf) | (refine fit (by simp only [kmin, kmax]; omega) ?_; conv => whnf) | (refine br_t (by assumption) ?_; conv => whnf) | (refine br_f (by assumption) ?_; conv => whnf) | (refine get_of (by assumption) ?_; conv => whnf) | (refine get_map (by assumption) ?_; conv => whnf) | (refine call_eq (hix) hC hasBody_33 ?_ ?_ ?_; kernel_rfl; kernel_rfl; conv => whnf) | (refine callq_eq (hix) hC hasBody_33 ?_ ?_ ?_; kernel_rfl; kernel_rfl; conv => whnf) | (refine callc_eq (hlc) hC hasBody_34 rfl ?_ ?_ ?_; kernel_rfl; kernel_rfl; conv => whnf) | (refine callcq_eq (hlc) hC hasBody_34 rfl ?_ ?_ ?_; kernel_rfl; kernel_rfl; conv => whnf) | (refine call_wr hC 0 1 (by decide) (m : Int) hls.2 (by omega) rfl rfl rfl rfl ?_; conv => whnf) | (refine draw_lex hE ?_ ?_; decide +kernel; conv => whnf) | (refine brd (fun h => ?_) (fun h => ?_) <;> conv => whnf) | (refine br (fun h => ?_) (fun h => ?_) <;> conv => whnf) | (refine ret_now hE ?_; conv => whnf) | (intro hlen; conv => whnf) | (refine seg_here ?_; conv => whnf) | (refine both ?_ ?_ <;> conv => whnf))
          all_goals exact next_keep [0, 3, 4] (n, i + J + 1, out ++ runeB m) ⟨by show i + J + 1 ≤ _; omega, by show s.length - (i + J + 1) < n; omega, by show (out ++ runeB m).length + (s.length - (i + J + 1)) ≤ _; rw [List.length_append]; omega, by rw [hdr2, ← hI]; simp⟩ (Nat.lt_succ_self n) rfl
    · rw [if_neg h38] at hI
      have hc38 : ¬ ((c.toNat : Int) = 38) := fun e => h38 (UInt8.toNat_inj.1 (by have : (38 : UInt8).toNat = 38 := rfl; omega))
      conv => whnf
      repeat' (first | (refine brd_t (by first | assumption | omega) ?_; conv => whnf) | (refine brd_f (by first | assumption | omega) ?_; conv => whnf) | (refine ask (by first | assumption | omega) ?_; conv => whnf) | (refine fit64 (by omega) ?_; conv => whnf) | (refine fit (by simp only [kmin, kmax]; omega) ?_; conv => whnf) | (refine br_t (by assumption) ?_; conv => whnf) | (refine br_f (by assumption) ?_; conv => whnf) | (refine get_of (by assumption) ?_; conv => whnf) | (refine get_map (by assumption) ?_; conv => whnf) | (refine call_wb hC 0 1 (by decide) c (by omega) rfl rfl rfl rfl ?_; conv => whnf) | (refine draw_lex hE ?_ ?_; decide +kernel; conv => whnf) | (refine brd (fun h => ?_) (fun h => ?_) <;> conv => whnf) | (refine br (fun h => ?_) (fun h => ?_) <;> conv => whnf) | (refine ret_now hE ?_; conv => whnf) | (intro hlen; conv => whnf) | (refine seg_here ?_; conv => whnf) | (refine both ?_ ?_ <;> conv => whnf))
      exact next_keep [0, 3, 4] (n, i + 1, out ++ [c]) ⟨hlt, by omega, by show (out ++ [c]).length + _ ≤ _; rw [List.length_append, List.length_singleton]; omega, by rw [hdr, ← hI]; simp⟩ (Nat.lt_succ_self n) rfl
  · have hie : i = s.length := by omega
    subst hie
    have hnil : s.drop s.length = [] := List.drop_length
    rw [hnil, uneP, List.append_nil] at hI
    conv => whnf
    repeat' (first | (refine brd_t (by first | assumption | omega) ?_; conv => whnf) | (refine brd_f (by first | assumption | omega) ?_; conv => whnf) | (refine ask (by first | assumption | omega) ?_; conv => whnf) | (refine fit64 (by omega) ?_; conv => whnf) | (refine fit (by simp only [kmin, kmax]; omega) ?_; conv => whnf) | (refine br_t (by assumption) ?_; conv => whnf) | (refine br_f (by assumption) ?_; conv => whnf) | (refine get_of (by assumption) ?_; conv => whnf) | (refine get_map (by assumption) ?_; conv => whnf) | (refine call_str hC 0 1 (by decide) rfl rfl rfl ?_; conv => whnf) | (refine draw_lex hE ?_ ?_; decide +kernel; conv => whnf) | (refine brd (fun h => ?_) (fun h => ?_) <;> conv => whnf) | (refine br (fun h => ?_) (fun h => ?_) <;> conv => whnf) | (refine ret_now hE ?_; conv => whnf) | (intro hlen; conv => whnf) | (refine seg_here ?_; conv => whnf) | (refine both ?_ ?_ <;> conv => whnf))
    all_goals exact ⟨rfl, by rw [hI]⟩
end Go.Proofs.YtaeeceabnkgnnaaDoor

/-! Plain law: numbers read letter by letter are the numbers that are cut out. No conditions. -/
namespace Go.Proofs.YtaeeceabnkgnnaaDoor
open Go.RowKit

/-- The document's digit. -/
def dg (c : UInt8) : Nat := if 48 ≤ c.toNat ∧ c.toNat ≤ 57 then c.toNat - 48 else if 97 ≤ c.toNat ∧ c.toNat ≤ 102 then c.toNat - 87 else if 65 ≤ c.toNat ∧ c.toNat ≤ 70 then c.toNat - 55 else 99
def dgB (c : UInt8) : Bool := match pD c with | some d => (if d < 16 then decide (dg c = d) else decide (16 ≤ dg c)) | none => decide (16 ≤ dg c)
theorem dg_all : ∀ j : Fin 256, dgB (UInt8.ofNat j.val) = true := by decide +kernel
theorem dg_pD (c : UInt8) : match pD c with | some d => (if d < 16 then dg c = d else 16 ≤ dg c) | none => 16 ≤ dg c := by
  have := dg_all ⟨c.toNat, c.toNat_lt⟩
  have h : dgB c = true := by simpa using this
  unfold dgB at h
  cases hp : pD c with
  | none => rw [hp] at h; exact of_decide_eq_true h
  | some d =>
    rw [hp] at h
    simp only at h ⊢
    split
    · rename_i hd; rw [if_pos hd] at h; exact of_decide_eq_true h
    · rename_i hd; rw [if_neg hd] at h; exact of_decide_eq_true h
theorem pU_cons {B n : Nat} (hB : B ≤ 16) (c : UInt8) (r : List UInt8) : pU B n (c :: r) = if dg c < B then pU B (n * B + dg c) r else none := by
  rw [pU]
  have h := dg_pD c
  cases hp : pD c with
  | none =>
    rw [hp] at h
    simp only at h ⊢
    rw [if_neg (by omega)]
  | some d =>
    rw [hp] at h
    simp only at h ⊢
    by_cases h16 : d < 16
    · rw [if_pos h16] at h
      rw [h]
    · rw [if_neg h16] at h
      rw [if_neg (by omega), if_neg (by omega)]
/-- Digits one by one: the value (of the first lim + 1), how many, the rest. -/
def scn (B lim : Nat) : Nat → Nat → List UInt8 → Nat × Nat × List UInt8
  | v, k, [] => (v, k, [])
  | v, k, c :: r => if dg c < B then scn B lim (if k ≤ lim then v * B + dg c else v) (k + 1) r else (v, k, c :: r)
theorem dg_semi : dg 59 = 99 := by decide
theorem scn_spl {B lim : Nat} (hB : B ≤ 16) : ∀ (w : List UInt8) (v k v' k' : Nat) (rest : List UInt8), scn B lim v k w = (v', k', 59 :: rest) →
    ∃ nm m, spl w = some (nm, rest) ∧ k' = k + nm.length ∧ pU B v nm = some m ∧ (k' ≤ lim + 1 → v' = m)
  | [], v, k, v', k', rest, h => by simp [scn] at h
  | c :: r, v, k, v', k', rest, h => by
    rw [scn] at h
    by_cases hd : dg c < B
    · rw [if_pos hd] at h
      obtain ⟨nm, m, h1, h2, h3, h4⟩ := scn_spl hB r _ _ _ _ _ h
      have hc : c ≠ 59 := by rintro rfl; rw [dg_semi] at hd; omega
      by_cases hk : k ≤ lim
      · rw [if_pos hk] at h3
        exact ⟨c :: nm, m, by rw [spl, if_neg hc, h1], by simp; omega, by rw [pU_cons hB, if_pos hd]; exact h3, h4⟩
      · rw [if_neg hk] at h3
        obtain ⟨m2, hm2⟩ : ∃ m2, pU B (v * B + dg c) nm = some m2 := by
          clear h h4 h1 h2
          have gen : ∀ (l : List UInt8) (a b x : Nat), pU B a l = some x → ∃ y, pU B b l = some y := by
            intro l
            induction l with
            | nil => intro a b x _; exact ⟨b, rfl⟩
            | cons e l ih =>
              intro a b x hx
              rw [pU_cons hB] at hx ⊢
              split at hx
              · rename_i he
                rw [if_pos he]
                exact ih _ _ _ hx
              · cases hx
          exact gen nm _ _ _ h3
        exact ⟨c :: nm, m2, by rw [spl, if_neg hc, h1], by simp; omega, by rw [pU_cons hB, if_pos hd]; exact hm2, fun hle => by omega⟩
    · rw [if_neg hd] at h
      simp only [Prod.mk.injEq, List.cons.injEq] at h
      obtain ⟨rfl, rfl, rfl, rfl⟩ := h
      exact ⟨[], v, by rw [spl, if_pos rfl], by simp, rfl, fun _ => rfl⟩
theorem scn_of {B lim : Nat} (hB : B ≤ 16) : ∀ (w : List UInt8) (v k m : Nat) (nm rest : List UInt8), spl w = some (nm, rest) → pU B v nm = some m → ∃ v', scn B lim v k w = (v', k + nm.length, 59 :: rest)
  | [], v, k, m, nm, rest, h, _ => by cases h
  | c :: r, v, k, m, nm, rest, h, hp => by
    rw [spl] at h
    by_cases hc : c = 59
    · rw [if_pos hc] at h
      cases h
      subst hc
      exact ⟨v, by rw [scn, if_neg (by rw [dg_semi]; omega)]; rfl⟩
    · rw [if_neg hc] at h
      cases hs : spl r with
      | none => rw [hs] at h; cases h
      | some p =>
        obtain ⟨nm2, rest2⟩ := p
        rw [hs] at h
        cases h
        rw [pU_cons hB] at hp
        split at hp
        · rename_i hd
          have gen : ∀ (l : List UInt8) (a b x : Nat), pU B a l = some x → ∃ y, pU B b l = some y := by
            intro l
            induction l with
            | nil => intro a b x _; exact ⟨b, rfl⟩
            | cons e l ih =>
              intro a b x hx
              rw [pU_cons hB] at hx ⊢
              split at hx
              · rename_i he
                rw [if_pos he]
                exact ih _ _ _ hx
              · cases hx
          obtain ⟨y, hy⟩ := gen nm2 _ (if k ≤ lim then v * B + dg c else v) _ hp
          obtain ⟨v', hv⟩ := scn_of hB r (if k ≤ lim then v * B + dg c else v) (k + 1) y nm2 _ hs hy
          exact ⟨v', by rw [scn, if_pos hd, hv]; simp; omega⟩
        · cases hp
/-- What the document's number is: its value and how many letters it and its ';' take, or none. -/
def numD (B lim : Nat) (w : List UInt8) : Option (Nat × Nat) :=
  match scn B lim 0 0 w with
  | (v, k, c :: _) => if c = 59 ∧ k ≠ 0 ∧ k ≤ lim then some (fixR v, k + 1) else none
  | _ => none
def numS (B lim : Nat) (w : List UInt8) : Option (Nat × Nat) :=
  match spl w with
  | some (nm, _) => (numR B lim nm).map fun m => (m, nm.length + 1)
  | none => none
theorem num_eq {B lim : Nat} (hB : B ≤ 16) (w : List UInt8) : numD B lim w = numS B lim w := by
  unfold numD numS
  cases hs : spl w with
  | none =>
    split
    · rename_i v k c r hsc
      rw [if_neg]
      rintro ⟨rfl, _, _⟩
      obtain ⟨nm, m, h1, _⟩ := scn_spl hB w _ _ _ _ _ hsc
      rw [hs] at h1
      cases h1
    · rfl
  | some p =>
    obtain ⟨nm, rest⟩ := p
    simp only
    cases hp : pU B 0 nm with
    | none =>
      have hn : numR B lim nm = none := by unfold numR; rw [hp]; simp
      rw [hn]
      split
      · rename_i v k c r hsc
        rw [if_neg]
        · rfl
        rintro ⟨rfl, _, _⟩
        obtain ⟨nm2, m, h1, _, h3, _⟩ := scn_spl hB w _ _ _ _ _ hsc
        rw [hs] at h1
        cases h1
        rw [hp] at h3
        cases h3
      · rfl
    | some m =>
      obtain ⟨v', hsc⟩ := scn_of (lim := lim) hB w 0 0 m nm rest hs hp
      obtain ⟨nm2, m2, h1, _, h3, h4⟩ := scn_spl hB w _ _ _ _ _ hsc
      rw [hs] at h1
      cases h1
      rw [hp] at h3
      cases h3
      rw [hsc]
      simp only
      unfold numR
      by_cases h0 : nm = []
      · rw [if_neg (by rintro ⟨_, h1, h2⟩; rw [h0] at h1; exact h1 rfl), if_pos (.inl h0)]
        rfl
      · by_cases hl : lim < nm.length
        · rw [if_neg (by rintro ⟨_, h1, h2⟩; omega), if_pos (.inr hl)]
          rfl
        · have hpos : nm.length ≠ 0 := fun e => h0 (List.length_eq_zero_iff.1 e)
          rw [if_pos ⟨trivial, by omega, by omega⟩, if_neg (by intro h; rcases h with h | h; exact h0 h; exact hl h), hp, h4 (by omega)]
          simp
end Go.Proofs.YtaeeceabnkgnnaaDoor
