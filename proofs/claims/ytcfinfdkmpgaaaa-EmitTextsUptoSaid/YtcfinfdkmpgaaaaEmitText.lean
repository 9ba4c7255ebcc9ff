/- emit.Text and the document's EmitText, walked; the law EmitTexts. No conditions. -/
import Derived.Test.YtcfinfdkmpgaaaaEmitLaw
import Derived.Test.YtcfinfdkmpgaaaaTag
import Derived.Test.YtcfinfdkmpgaaaaBldl
set_option linter.unusedSimpArgs false
set_option linter.unusedVariables false
set_option maxRecDepth 100000
namespace Go.Proofs.Ytcfinfdkmpgaaaa
open Go.RowKit

def tokT (t : Tk) : List UInt8 := if t.kind = 1 then stT t.name t.attrs ++ (if t.self = true then [47] else []) ++ [62] else if t.kind = 2 then [60, 47] ++ t.name ++ [62] else escT false t.text
theorem firstC_zero {f : Nat → Int} {n : Nat} (h : firstC f n = 0) : ∀ j < n, f j = 0 := by
  intro j hj
  unfold firstC at h
  cases hf : ((List.range n).map f).find? (fun c => decide (c ≠ 0)) with
  | some c =>
    rw [hf] at h
    have := List.find?_some hf
    simp at this h
    exact absurd h this
  | none =>
    rw [List.find?_eq_none] at hf
    have := hf (f j) (List.mem_map.2 ⟨j, List.mem_range.2 hj, rfl⟩)
    simpa using this
theorem attrsF_small {l : List Atr} (h : attrsF l = 0) : l.length ≤ 4 := by
  unfold attrsF at h
  split at h
  · cases h
  · split at h
    · cases h
    · omega
theorem emit_ok {l : List Tk} (h : emitCode l = 0) : l.length ≤ 300 ∧ ∀ (k : Nat) (t : Tk), l[k]? = some t → (t.kind = 1 ∨ t.kind = 2 ∨ t.kind = 3) ∧ (t.kind ≤ 2 → t.attrs.length ≤ 4) := by
  unfold emitCode at h
  by_cases h3 : 300 < l.length
  · rw [if_pos h3] at h; cases h
  rw [if_neg h3] at h
  refine ⟨by omega, fun k t ht => ?_⟩
  have h0 := firstC_zero h k (List.getElem?_eq_some_iff.1 ht).1
  rw [tokAt_eq ht] at h0
  unfold tokF at h0
  by_cases c1 : t.kind < 1 ∨ 4 < t.kind
  · rw [if_pos c1] at h0; cases h0
  rw [if_neg c1] at h0
  by_cases c2 : t.kind ≤ 2 ∧ nameOk t.name = false
  · rw [if_pos c2] at h0; cases h0
  rw [if_neg c2] at h0
  by_cases c3 : t.kind ≤ 2 ∧ attrsF t.attrs ≠ 0
  · rw [if_pos c3] at h0; exact absurd h0 c3.2
  rw [if_neg c3] at h0
  refine ⟨?_, fun h2 => ?_⟩
  · by_cases c4 : t.kind = 4
    · exfalso
      have : oddB t (lastK l k) (l.drop (k + 1)) = true := (odd_t (by unfold oddP; omega)).symm
      rw [this] at h0
      cases h0
    · omega
  · refine attrsF_small ?_
    by_cases c4 : attrsF t.attrs = 0
    · exact c4
    · exact absurd ⟨h2, c4⟩ c3
def fitT (t : Tk) : Prop := t.name.length ≤ 1048576 ∧ t.text.length ≤ 1048576 ∧ ∀ a ∈ t.attrs, a.name.length ≤ 1048576 ∧ a.value.length ≤ 1048576
theorem tokT_len {t : Tk} (hf : fitT t) (h4 : t.kind ≤ 2 → t.attrs.length ≤ 4) : (tokT t).length ≤ 134217728 := by
  obtain ⟨h1, h2, h3⟩ := hf
  have ha := attT_len t.attrs (fun a ha => ⟨by have := (h3 a ha).1; omega, by have := (h3 a ha).2; omega⟩)
  have he := escT_len false t.text
  unfold tokT stT
  split
  · rename_i hk
    have := h4 (by omega)
    simp only [List.length_append, List.length_cons, List.length_nil]
    split <;> simp only [List.length_cons, List.length_nil] <;> omega
  · split
    · simp only [List.length_append, List.length_cons, List.length_nil]; omega
    · omega
theorem toks_step {l : List Tk} {k : Nat} {t : Tk} (hx : l[k]? = some t) : (l.take (k + 1)).flatMap tokT = (l.take k).flatMap tokT ++ tokT t := by
  rw [List.take_add_one, hx, List.flatMap_append]
  simp
noncomputable def emitR (l : List Tk) : V := if emitCode l = 0 then (if 600 < (l.flatMap tokT).length then .tup [.str [], .int .i64 1] else .tup [.str (l.flatMap tokT), .int .i64 0]) else .tup [.str [], .int .i64 (emitCode l)]
set_option maxHeartbeats 16000000 in
theorem emit_text (l : List Tk) (hfit : ∀ t ∈ l, fitT t) : Fn1 Try.prog 31 [.lst (l.map tokA)] (fun r => r = emitR l) := by
  have hlm : (l.map tokA).length = l.length := by simp
  have hc := emit_check l
  unfold emitR
  by_cases h0 : emitCode l = 0
  · rw [if_pos h0]
    rw [h0] at hc
    obtain ⟨h300, hok⟩ := emit_ok h0
    refine fn1E (T := Try.tt) Try.func31 rfl tt_all follows_all ?_ ?_ fun C hC hE => ?_
    · kernel_rfl
    · exact Nat.le_of_ble_eq_true (by kernel_rfl)
    conv => whnf
    repeat' (first | (refine brd_t (by first | assumption | omega) ?_; conv => whnf) | (refine brd_f (by first | assumption | omega) ?_; conv => whnf) | (refine ask (by first | assumption | omega) ?_; conv => whnf) | (refine fit64 (by omega) ?_; conv => whnf) | (refine fit (by simp only [kmin, kmax]; omega) ?_; conv => whnf) | (refine br_t (by assumption) ?_; conv => whnf) | (refine br_f (by assumption) ?_; conv => whnf) | (refine get_of (by assumption) ?_; conv => whnf) | (refine get_map (by assumption) ?_; conv => whnf) | (refine call_eq (hc) hC hasBody_25 ?_ ?_ ?_; kernel_rfl; kernel_rfl; conv => whnf) | (refine callq_eq (hc) hC hasBody_25 ?_ ?_ ?_; kernel_rfl; kernel_rfl; conv => whnf) | (refine brd (fun h => ?_) (fun h => ?_) <;> conv => whnf) | (refine br (fun h => ?_) (fun h => ?_) <;> conv => whnf) | (refine ret_now hE ?_; conv => whnf) | (intro hlen; conv => whnf))
    refine loopE (fun ((k, o) : Nat × List UInt8) => ⟨46, [(5, .ptr 0 0 0), (13, .lst (l.map tokA)), (14, .int .i64 (l.map tokA).length), (15, .int .i64 k)], [some (.bld 92 (some (1, o.length))), some (.buf 5 o)]⟩)
      (fun (k, o) => k ≤ l.length ∧ o.length ≤ k * 134217728 ∧ o = (l.take k).flatMap tokT) (fun (k, _) => l.length - k) (0, []) hE ?_ ?_ ⟨Nat.zero_le _, Nat.zero_le _, by simp⟩ ?_
    · kernel_rfl
    · exact up_buf 0 5 rfl (at_keep [5, 13, 14, 15] rfl)
    rintro ⟨k, o⟩ ⟨hk, hlo, ho⟩
    by_cases hlt : k < l.length
    · obtain ⟨t, hx⟩ : ∃ x, l[k]? = some x := ⟨_, List.getElem?_eq_getElem hlt⟩
      have hft := hfit t (List.mem_of_getElem? hx)
      have hst := toks_step hx
      rw [← ho] at hst
      obtain ⟨hkind, h4⟩ := hok k t hx
      have htl := tokT_len hft h4
      have hol : (o ++ tokT t).length ≤ (k + 1) * 134217728 := by rw [List.length_append]; omega
      have hE1 := ref_esc t.text false (by have := hft.2.1; omega)
      have hel := escT_len false t.text
      have hft2 := hft.2.1
      have hft1 := hft.1
      rcases hkind with c | c | c
      · have h4' := h4 (by omega)
        have hab : ∀ a ∈ t.attrs, a.name.length ≤ 2097152 ∧ a.value.length ≤ 2097152 := fun a ha => by have := hft.2.2 a ha; omega
        have hT := fun self => emit_tag t.name t.attrs self (by omega) (by omega) hab
        have hsl : (stT t.name t.attrs).length ≤ 134217700 := by
          have := attT_len t.attrs hab
          unfold stT
          simp only [List.length_append, List.length_cons, List.length_nil]
          omega
        cases hs : t.self with
        | false =>
          have hT := hT false
          have htk : tokT t = stT t.name t.attrs ++ (if false = true then [47] else []) ++ [62] := by unfold tokT; rw [if_pos c, hs]
          have hlen : (stT t.name t.attrs ++ (if false = true then [47] else []) ++ [62]).length ≤ 134217728 := by rw [← htk]; exact htl
          rw [htk] at hol hst
          generalize stT t.name t.attrs ++ (if false = true then [47] else []) ++ [62] = tx at hT hol hst hlen
          conv => whnf
          repeat' (first | (refine brd_t (by first | assumption | omega) ?_; conv => whnf) | (refine brd_f (by first | assumption | omega) ?_; conv => whnf) | (refine ask (by first | assumption | omega) ?_; conv => whnf) | (refine fit64 (by omega) ?_; conv => whnf) | (refine fit (by simp only [kmin, kmax]; omega) ?_; conv => whnf) | (refine br_t (by assumption) ?_; conv => whnf) | (refine br_f (by assumption) ?_; conv => whnf) | (refine get_of (by assumption) ?_; conv => whnf) | (refine get_map (by assumption) ?_; conv => whnf) | (refine call_ws hC 0 1 (by decide) ?_ rfl rfl rfl ?_; (first | omega | (simp; omega)); conv => whnf) | (refine ask ?_ ?_; (first | omega | (simp; omega)); conv => whnf) | (refine call_eq (hE1) hC hasBody_63 ?_ ?_ ?_; kernel_rfl; kernel_rfl; conv => whnf) | (refine callq_eq (hE1) hC hasBody_63 ?_ ?_ ?_; kernel_rfl; kernel_rfl; conv => whnf) | (refine call_eq (hT) hC hasBody_62 ?_ ?_ ?_; kernel_rfl; kernel_rfl; conv => whnf) | (refine callq_eq (hT) hC hasBody_62 ?_ ?_ ?_; kernel_rfl; kernel_rfl; conv => whnf) | (refine brd (fun h => ?_) (fun h => ?_) <;> conv => whnf) | (refine br (fun h => ?_) (fun h => ?_) <;> conv => whnf) | (refine ret_now hE ?_; conv => whnf) | (intro hlen; conv => whnf))
          exact next_drop [5, 13, 14, 15] [2] (k + 1, o ++ tx) ⟨hlt, hol, hst.symm⟩ (show l.length - (k + 1) < l.length - k by omega) rfl
        | true =>
          have hT := hT true
          have htk : tokT t = stT t.name t.attrs ++ (if true = true then [47] else []) ++ [62] := by unfold tokT; rw [if_pos c, hs]
          have hlen : (stT t.name t.attrs ++ (if true = true then [47] else []) ++ [62]).length ≤ 134217728 := by rw [← htk]; exact htl
          rw [htk] at hol hst
          generalize stT t.name t.attrs ++ (if true = true then [47] else []) ++ [62] = tx at hT hol hst hlen
          conv => whnf
          repeat' (first | (refine brd_t (by first | assumption | omega) ?_; conv => whnf) | (refine brd_f (by first | assumption | omega) ?_; conv => whnf) | (refine ask (by first | assumption | omega) ?_; conv => whnf) | (refine fit64 (by omega) ?_; conv => whnf) | (refine fit (by simp only [kmin, kmax]; omega) ?_; conv => whnf) | (refine br_t (by assumption) ?_; conv => whnf) | (refine br_f (by assumption) ?_; conv => whnf) | (refine get_of (by assumption) ?_; conv => whnf) | (refine get_map (by assumption) ?_; conv => whnf) | (refine call_ws hC 0 1 (by decide) ?_ rfl rfl rfl ?_; (first | omega | (simp; omega)); conv => whnf) | (refine ask ?_ ?_; (first | omega | (simp; omega)); conv => whnf) | (refine call_eq (hE1) hC hasBody_63 ?_ ?_ ?_; kernel_rfl; kernel_rfl; conv => whnf) | (refine callq_eq (hE1) hC hasBody_63 ?_ ?_ ?_; kernel_rfl; kernel_rfl; conv => whnf) | (refine call_eq (hT) hC hasBody_62 ?_ ?_ ?_; kernel_rfl; kernel_rfl; conv => whnf) | (refine callq_eq (hT) hC hasBody_62 ?_ ?_ ?_; kernel_rfl; kernel_rfl; conv => whnf) | (refine brd (fun h => ?_) (fun h => ?_) <;> conv => whnf) | (refine br (fun h => ?_) (fun h => ?_) <;> conv => whnf) | (refine ret_now hE ?_; conv => whnf) | (intro hlen; conv => whnf))
          exact next_drop [5, 13, 14, 15] [2] (k + 1, o ++ tx) ⟨hlt, hol, hst.symm⟩ (show l.length - (k + 1) < l.length - k by omega) rfl
      · have htk : tokT t = [60, 47] ++ t.name ++ [62] := by
          unfold tokT
          rw [if_neg (by omega), if_pos c]
        rw [htk] at hol hst
        cases hs : t.self
        all_goals (
          conv => whnf
          repeat' (first | (refine brd_t (by first | assumption | omega) ?_; conv => whnf) | (refine brd_f (by first | assumption | omega) ?_; conv => whnf) | (refine ask (by first | assumption | omega) ?_; conv => whnf) | (refine fit64 (by omega) ?_; conv => whnf) | (refine fit (by simp only [kmin, kmax]; omega) ?_; conv => whnf) | (refine br_t (by assumption) ?_; conv => whnf) | (refine br_f (by assumption) ?_; conv => whnf) | (refine get_of (by assumption) ?_; conv => whnf) | (refine get_map (by assumption) ?_; conv => whnf) | (refine call_ws hC 0 1 (by decide) ?_ rfl rfl rfl ?_; (first | omega | (simp; omega)); conv => whnf) | (refine ask ?_ ?_; (first | omega | (simp; omega)); conv => whnf) | (refine call_eq (hE1) hC hasBody_63 ?_ ?_ ?_; kernel_rfl; kernel_rfl; conv => whnf) | (refine callq_eq (hE1) hC hasBody_63 ?_ ?_ ?_; kernel_rfl; kernel_rfl; conv => whnf) | (refine call_eq (hT) hC hasBody_62 ?_ ?_ ?_; kernel_rfl; kernel_rfl; conv => whnf) | (refine callq_eq (hT) hC hasBody_62 ?_ ?_ ?_; kernel_rfl; kernel_rfl; conv => whnf) | (refine brd (fun h => ?_) (fun h => ?_) <;> conv => whnf) | (refine br (fun h => ?_) (fun h => ?_) <;> conv => whnf) | (refine ret_now hE ?_; conv => whnf) | (intro hlen; conv => whnf))
          exact next_drop [5, 13, 14, 15] [2] (k + 1, o ++ ([60, 47] ++ t.name ++ [62])) ⟨hlt, hol, hst.symm⟩ (show l.length - (k + 1) < l.length - k by omega) rfl)
      · have htk : tokT t = escT false t.text := by
          unfold tokT
          rw [if_neg (by omega), if_neg (by omega)]
        rw [htk] at hol hst
        cases hs : t.self
        all_goals (
          conv => whnf
          repeat' (first | (refine brd_t (by first | assumption | omega) ?_; conv => whnf) | (refine brd_f (by first | assumption | omega) ?_; conv => whnf) | (refine ask (by first | assumption | omega) ?_; conv => whnf) | (refine fit64 (by omega) ?_; conv => whnf) | (refine fit (by simp only [kmin, kmax]; omega) ?_; conv => whnf) | (refine br_t (by assumption) ?_; conv => whnf) | (refine br_f (by assumption) ?_; conv => whnf) | (refine get_of (by assumption) ?_; conv => whnf) | (refine get_map (by assumption) ?_; conv => whnf) | (refine call_ws hC 0 1 (by decide) ?_ rfl rfl rfl ?_; (first | omega | (simp; omega)); conv => whnf) | (refine ask ?_ ?_; (first | omega | (simp; omega)); conv => whnf) | (refine call_eq (hE1) hC hasBody_63 ?_ ?_ ?_; kernel_rfl; kernel_rfl; conv => whnf) | (refine callq_eq (hE1) hC hasBody_63 ?_ ?_ ?_; kernel_rfl; kernel_rfl; conv => whnf) | (refine call_eq (hT) hC hasBody_62 ?_ ?_ ?_; kernel_rfl; kernel_rfl; conv => whnf) | (refine callq_eq (hT) hC hasBody_62 ?_ ?_ ?_; kernel_rfl; kernel_rfl; conv => whnf) | (refine brd (fun h => ?_) (fun h => ?_) <;> conv => whnf) | (refine br (fun h => ?_) (fun h => ?_) <;> conv => whnf) | (refine ret_now hE ?_; conv => whnf) | (intro hlen; conv => whnf))
          exact next_drop [5, 13, 14, 15] [2] (k + 1, o ++ escT false t.text) ⟨hlt, hol, hst.symm⟩ (show l.length - (k + 1) < l.length - k by omega) rfl)
    · have hall : o = l.flatMap tokT := by rw [ho, List.take_of_length_le (by omega)]
      conv => whnf
      repeat' (first | (refine brd_t (by first | assumption | omega) ?_; conv => whnf) | (refine brd_f (by first | assumption | omega) ?_; conv => whnf) | (refine ask (by first | assumption | omega) ?_; conv => whnf) | (refine fit64 (by omega) ?_; conv => whnf) | (refine fit (by simp only [kmin, kmax]; omega) ?_; conv => whnf) | (refine br_t (by assumption) ?_; conv => whnf) | (refine br_f (by assumption) ?_; conv => whnf) | (refine get_of (by assumption) ?_; conv => whnf) | (refine get_map (by assumption) ?_; conv => whnf) | (refine call_len hC 0 1 (by decide) rfl rfl rfl ?_; conv => whnf) | (refine call_str hC 0 1 (by decide) rfl rfl rfl ?_; conv => whnf) | (refine brd (fun h => ?_) (fun h => ?_) <;> conv => whnf) | (refine br (fun h => ?_) (fun h => ?_) <;> conv => whnf) | (refine ret_now hE ?_; conv => whnf) | (intro hlen; conv => whnf))
      · refine ⟨rfl, ?_⟩
        rw [← hall, if_pos (by omega)]
      · refine ⟨rfl, ?_⟩
        rw [← hall, if_neg (by omega)]
  · rw [if_neg h0]
    refine fn1E (T := Try.tt) Try.func31 rfl tt_all follows_all ?_ ?_ fun C hC hE => ?_
    · kernel_rfl
    · exact Nat.le_of_ble_eq_true (by kernel_rfl)
    conv => whnf
    repeat' (first | (refine brd_t (by first | assumption | omega) ?_; conv => whnf) | (refine brd_f (by first | assumption | omega) ?_; conv => whnf) | (refine ask (by first | assumption | omega) ?_; conv => whnf) | (refine fit64 (by omega) ?_; conv => whnf) | (refine fit (by simp only [kmin, kmax]; omega) ?_; conv => whnf) | (refine br_t (by assumption) ?_; conv => whnf) | (refine br_f (by assumption) ?_; conv => whnf) | (refine get_of (by assumption) ?_; conv => whnf) | (refine get_map (by assumption) ?_; conv => whnf) | (refine call_eq (hc) hC hasBody_25 ?_ ?_ ?_; kernel_rfl; kernel_rfl; conv => whnf) | (refine callq_eq (hc) hC hasBody_25 ?_ ?_ ?_; kernel_rfl; kernel_rfl; conv => whnf) | (refine brd_t h0 ?_; conv => whnf) | (refine brd_f h0 ?_; conv => whnf) | (refine brd (fun h => ?_) (fun h => ?_) <;> conv => whnf) | (refine br (fun h => ?_) (fun h => ?_) <;> conv => whnf) | (refine ret_now hE ?_; conv => whnf) | (intro hlen; conv => whnf))
    exact ⟨rfl, rfl⟩
set_option maxHeartbeats 16000000 in
theorem doc_emit_text (l : List Tk) (hfit : ∀ t ∈ l, fitT t) : Fn1 Try.prog 32 [.lst (l.map tokA)] (fun r => r = emitR l) := by
  have hlm : (l.map tokA).length = l.length := by simp
  have hc := emit_fault l
  unfold emitR
  by_cases h0 : emitCode l = 0
  · rw [if_pos h0]
    rw [h0] at hc
    obtain ⟨h300, hok⟩ := emit_ok h0
    refine fn1E (T := Try.tt) Try.func32 rfl tt_all follows_all ?_ ?_ fun C hC hE => ?_
    · kernel_rfl
    · exact Nat.le_of_ble_eq_true (by kernel_rfl)
    conv => whnf
    repeat' (first | (refine brd_t (by first | assumption | omega) ?_; conv => whnf) | (refine brd_f (by first | assumption | omega) ?_; conv => whnf) | (refine ask (by first | assumption | omega) ?_; conv => whnf) | (refine fit64 (by omega) ?_; conv => whnf) | (refine fit (by simp only [kmin, kmax]; omega) ?_; conv => whnf) | (refine br_t (by assumption) ?_; conv => whnf) | (refine br_f (by assumption) ?_; conv => whnf) | (refine get_of (by assumption) ?_; conv => whnf) | (refine get_map (by assumption) ?_; conv => whnf) | (refine call_eq (hc) hC hasBody_26 ?_ ?_ ?_; kernel_rfl; kernel_rfl; conv => whnf) | (refine callq_eq (hc) hC hasBody_26 ?_ ?_ ?_; kernel_rfl; kernel_rfl; conv => whnf) | (refine brd (fun h => ?_) (fun h => ?_) <;> conv => whnf) | (refine br (fun h => ?_) (fun h => ?_) <;> conv => whnf) | (refine ret_now hE ?_; conv => whnf) | (intro hlen; conv => whnf))
    refine loopE (fun ((k, o) : Nat × List UInt8) => ⟨62, [(5, .str o), (13, .lst (l.map tokA)), (14, .int .i64 (l.map tokA).length), (15, .int .i64 k)], []⟩)
      (fun (k, o) => k ≤ l.length ∧ o.length ≤ k * 134217728 ∧ o = (l.take k).flatMap tokT) (fun (k, _) => l.length - k) (0, []) hE ?_ ?_ ⟨Nat.zero_le _, Nat.zero_le _, by simp⟩ ?_
    · kernel_rfl
    · exact at_keep [5, 13, 14, 15] rfl
    rintro ⟨k, o⟩ ⟨hk, hlo, ho⟩
    by_cases hlt : k < l.length
    · obtain ⟨t, hx⟩ : ∃ x, l[k]? = some x := ⟨_, List.getElem?_eq_getElem hlt⟩
      have hft := hfit t (List.mem_of_getElem? hx)
      have hst := toks_step hx
      rw [← ho] at hst
      obtain ⟨hkind, h4⟩ := hok k t hx
      have htl := tokT_len hft h4
      have hol : (o ++ tokT t).length ≤ (k + 1) * 134217728 := by rw [List.length_append]; omega
      have hE1 := doc_esc t.text false (by have := hft.2.1; omega)
      have hel := escT_len false t.text
      have hft2 := hft.2.1
      have hft1 := hft.1
      rcases hkind with c | c | c
      · have h4' := h4 (by omega)
        have hab : ∀ a ∈ t.attrs, a.name.length ≤ 2097152 ∧ a.value.length ≤ 2097152 := fun a ha => by have := hft.2.2 a ha; omega
        have hT := doc_start t.name t.attrs (by omega) (by omega) hab
        have hsl : (stT t.name t.attrs).length ≤ 134217700 := by
          have := attT_len t.attrs hab
          unfold stT
          simp only [List.length_append, List.length_cons, List.length_nil]
          omega
        cases hs : t.self with
        | false =>
          have htk : tokT t = stT t.name t.attrs ++ [62] := by unfold tokT; rw [if_pos c, hs]; simp
          rw [htk] at hol hst
          conv => whnf
          repeat' (first | (refine brd_t (by first | assumption | omega) ?_; conv => whnf) | (refine brd_f (by first | assumption | omega) ?_; conv => whnf) | (refine ask (by first | assumption | omega) ?_; conv => whnf) | (refine fit64 (by omega) ?_; conv => whnf) | (refine fit (by simp only [kmin, kmax]; omega) ?_; conv => whnf) | (refine br_t (by assumption) ?_; conv => whnf) | (refine br_f (by assumption) ?_; conv => whnf) | (refine get_of (by assumption) ?_; conv => whnf) | (refine get_map (by assumption) ?_; conv => whnf) | (refine ask ?_ ?_; (first | omega | (simp; omega)); conv => whnf) | (refine call_eq (hE1) hC hasBody_66 ?_ ?_ ?_; kernel_rfl; kernel_rfl; conv => whnf) | (refine callq_eq (hE1) hC hasBody_66 ?_ ?_ ?_; kernel_rfl; kernel_rfl; conv => whnf) | (refine call_eq (hT) hC hasBody_67 ?_ ?_ ?_; kernel_rfl; kernel_rfl; conv => whnf) | (refine callq_eq (hT) hC hasBody_67 ?_ ?_ ?_; kernel_rfl; kernel_rfl; conv => whnf) | (refine brd (fun h => ?_) (fun h => ?_) <;> conv => whnf) | (refine br (fun h => ?_) (fun h => ?_) <;> conv => whnf) | (refine ret_now hE ?_; conv => whnf) | (intro hlen; conv => whnf))
          exact next_drop [5, 13, 14, 15] [0] (k + 1, o ++ (stT t.name t.attrs ++ [62])) ⟨hlt, hol, hst.symm⟩ (show l.length - (k + 1) < l.length - k by omega) rfl
        | true =>
          have htk : tokT t = stT t.name t.attrs ++ [47, 62] := by unfold tokT; rw [if_pos c, hs]; simp
          rw [htk] at hol hst
          conv => whnf
          repeat' (first | (refine brd_t (by first | assumption | omega) ?_; conv => whnf) | (refine brd_f (by first | assumption | omega) ?_; conv => whnf) | (refine ask (by first | assumption | omega) ?_; conv => whnf) | (refine fit64 (by omega) ?_; conv => whnf) | (refine fit (by simp only [kmin, kmax]; omega) ?_; conv => whnf) | (refine br_t (by assumption) ?_; conv => whnf) | (refine br_f (by assumption) ?_; conv => whnf) | (refine get_of (by assumption) ?_; conv => whnf) | (refine get_map (by assumption) ?_; conv => whnf) | (refine ask ?_ ?_; (first | omega | (simp; omega)); conv => whnf) | (refine call_eq (hE1) hC hasBody_66 ?_ ?_ ?_; kernel_rfl; kernel_rfl; conv => whnf) | (refine callq_eq (hE1) hC hasBody_66 ?_ ?_ ?_; kernel_rfl; kernel_rfl; conv => whnf) | (refine call_eq (hT) hC hasBody_67 ?_ ?_ ?_; kernel_rfl; kernel_rfl; conv => whnf) | (refine callq_eq (hT) hC hasBody_67 ?_ ?_ ?_; kernel_rfl; kernel_rfl; conv => whnf) | (refine brd (fun h => ?_) (fun h => ?_) <;> conv => whnf) | (refine br (fun h => ?_) (fun h => ?_) <;> conv => whnf) | (refine ret_now hE ?_; conv => whnf) | (intro hlen; conv => whnf))
          exact next_drop [5, 13, 14, 15] [0] (k + 1, o ++ (stT t.name t.attrs ++ [47, 62])) ⟨hlt, hol, hst.symm⟩ (show l.length - (k + 1) < l.length - k by omega) rfl
      · have htk : tokT t = [60, 47] ++ t.name ++ [62] := by
          unfold tokT
          rw [if_neg (by omega), if_pos c]
        rw [htk] at hol hst
        cases hs : t.self
        all_goals (
          conv => whnf
          repeat' (first | (refine brd_t (by first | assumption | omega) ?_; conv => whnf) | (refine brd_f (by first | assumption | omega) ?_; conv => whnf) | (refine ask (by first | assumption | omega) ?_; conv => whnf) | (refine fit64 (by omega) ?_; conv => whnf) | (refine fit (by simp only [kmin, kmax]; omega) ?_; conv => whnf) | (refine br_t (by assumption) ?_; conv => whnf) | (refine br_f (by assumption) ?_; conv => whnf) | (refine get_of (by assumption) ?_; conv => whnf) | (refine get_map (by assumption) ?_; conv => whnf) | (refine ask ?_ ?_; (first | omega | (simp; omega)); conv => whnf) | (refine call_eq (hE1) hC hasBody_66 ?_ ?_ ?_; kernel_rfl; kernel_rfl; conv => whnf) | (refine callq_eq (hE1) hC hasBody_66 ?_ ?_ ?_; kernel_rfl; kernel_rfl; conv => whnf) | (refine call_eq (hT) hC hasBody_67 ?_ ?_ ?_; kernel_rfl; kernel_rfl; conv => whnf) | (refine callq_eq (hT) hC hasBody_67 ?_ ?_ ?_; kernel_rfl; kernel_rfl; conv => whnf) | (refine brd (fun h => ?_) (fun h => ?_) <;> conv => whnf) | (refine br (fun h => ?_) (fun h => ?_) <;> conv => whnf) | (refine ret_now hE ?_; conv => whnf) | (intro hlen; conv => whnf))
          exact next_drop [5, 13, 14, 15] [0] (k + 1, o ++ ([60, 47] ++ t.name ++ [62])) ⟨hlt, hol, hst.symm⟩ (show l.length - (k + 1) < l.length - k by omega) rfl)
      · have htk : tokT t = escT false t.text := by
          unfold tokT
          rw [if_neg (by omega), if_neg (by omega)]
        rw [htk] at hol hst
        cases hs : t.self
        all_goals (
          conv => whnf
          repeat' (first | (refine brd_t (by first | assumption | omega) ?_; conv => whnf) | (refine brd_f (by first | assumption | omega) ?_; conv => whnf) | (refine ask (by first | assumption | omega) ?_; conv => whnf) | (refine fit64 (by omega) ?_; conv => whnf) | (refine fit (by simp only [kmin, kmax]; omega) ?_; conv => whnf) | (refine br_t (by assumption) ?_; conv => whnf) | (refine br_f (by assumption) ?_; conv => whnf) | (refine get_of (by assumption) ?_; conv => whnf) | (refine get_map (by assumption) ?_; conv => whnf) | (refine ask ?_ ?_; (first | omega | (simp; omega)); conv => whnf) | (refine call_eq (hE1) hC hasBody_66 ?_ ?_ ?_; kernel_rfl; kernel_rfl; conv => whnf) | (refine callq_eq (hE1) hC hasBody_66 ?_ ?_ ?_; kernel_rfl; kernel_rfl; conv => whnf) | (refine call_eq (hT) hC hasBody_67 ?_ ?_ ?_; kernel_rfl; kernel_rfl; conv => whnf) | (refine callq_eq (hT) hC hasBody_67 ?_ ?_ ?_; kernel_rfl; kernel_rfl; conv => whnf) | (refine brd (fun h => ?_) (fun h => ?_) <;> conv => whnf) | (refine br (fun h => ?_) (fun h => ?_) <;> conv => whnf) | (refine ret_now hE ?_; conv => whnf) | (intro hlen; conv => whnf))
          exact next_drop [5, 13, 14, 15] [0] (k + 1, o ++ escT false t.text) ⟨hlt, hol, hst.symm⟩ (show l.length - (k + 1) < l.length - k by omega) rfl)
    · have hall : o = l.flatMap tokT := by rw [ho, List.take_of_length_le (by omega)]
      conv => whnf
      repeat' (first | (refine brd_t (by first | assumption | omega) ?_; conv => whnf) | (refine brd_f (by first | assumption | omega) ?_; conv => whnf) | (refine ask (by first | assumption | omega) ?_; conv => whnf) | (refine fit64 (by omega) ?_; conv => whnf) | (refine fit (by simp only [kmin, kmax]; omega) ?_; conv => whnf) | (refine br_t (by assumption) ?_; conv => whnf) | (refine br_f (by assumption) ?_; conv => whnf) | (refine get_of (by assumption) ?_; conv => whnf) | (refine get_map (by assumption) ?_; conv => whnf) | (refine brd (fun h => ?_) (fun h => ?_) <;> conv => whnf) | (refine br (fun h => ?_) (fun h => ?_) <;> conv => whnf) | (refine ret_now hE ?_; conv => whnf) | (intro hlen; conv => whnf))
      · refine ⟨rfl, ?_⟩
        rw [← hall, if_pos (by omega)]
      · refine ⟨rfl, ?_⟩
        rw [← hall, if_neg (by omega)]
  · rw [if_neg h0]
    refine fn1E (T := Try.tt) Try.func32 rfl tt_all follows_all ?_ ?_ fun C hC hE => ?_
    · kernel_rfl
    · exact Nat.le_of_ble_eq_true (by kernel_rfl)
    conv => whnf
    repeat' (first | (refine brd_t (by first | assumption | omega) ?_; conv => whnf) | (refine brd_f (by first | assumption | omega) ?_; conv => whnf) | (refine ask (by first | assumption | omega) ?_; conv => whnf) | (refine fit64 (by omega) ?_; conv => whnf) | (refine fit (by simp only [kmin, kmax]; omega) ?_; conv => whnf) | (refine br_t (by assumption) ?_; conv => whnf) | (refine br_f (by assumption) ?_; conv => whnf) | (refine get_of (by assumption) ?_; conv => whnf) | (refine get_map (by assumption) ?_; conv => whnf) | (refine call_eq (hc) hC hasBody_26 ?_ ?_ ?_; kernel_rfl; kernel_rfl; conv => whnf) | (refine callq_eq (hc) hC hasBody_26 ?_ ?_ ?_; kernel_rfl; kernel_rfl; conv => whnf) | (refine brd_t h0 ?_; conv => whnf) | (refine brd_f h0 ?_; conv => whnf) | (refine brd (fun h => ?_) (fun h => ?_) <;> conv => whnf) | (refine br (fun h => ?_) (fun h => ?_) <;> conv => whnf) | (refine ret_now hE ?_; conv => whnf) | (intro hlen; conv => whnf))
    exact ⟨rfl, rfl⟩
theorem emitTexts_law (l : List Tk) (hfit : ∀ t ∈ l, fitT t) : Fn1 Try.prog 11 [.lst (l.map tokA)] (fun r => r = .bool true) := by
  have h1 := emit_text l hfit
  have h2 := doc_emit_text l hfit
  obtain ⟨s, e, hr⟩ : ∃ s e, emitR l = .tup [.str s, .int .i64 e] := by unfold emitR; (repeat' split) <;> exact ⟨_, _, rfl⟩
  rw [hr] at h1 h2
  refine fn1E (T := Try.tt) Try.func11 rfl tt_all follows_all ?_ ?_ fun C hC hE => ?_
  · kernel_rfl
  · exact Nat.le_of_ble_eq_true (by kernel_rfl)
  conv => whnf
  repeat' (first | (refine brd_t (by first | assumption | omega) ?_; conv => whnf) | (refine brd_f (by first | assumption | omega) ?_; conv => whnf) | (refine ask (by first | assumption | omega) ?_; conv => whnf) | (refine fit64 (by omega) ?_; conv => whnf) | (refine fit (by simp only [kmin, kmax]; omega) ?_; conv => whnf) | (refine br_t (by assumption) ?_; conv => whnf) | (refine br_f (by assumption) ?_; conv => whnf) | (refine get_of (by assumption) ?_; conv => whnf) | (refine get_map (by assumption) ?_; conv => whnf) | (refine brd_t rfl ?_; conv => whnf) | (refine call_eq (h1) hC hasBody_31 ?_ ?_ ?_; kernel_rfl; kernel_rfl; conv => whnf) | (refine callq_eq (h1) hC hasBody_31 ?_ ?_ ?_; kernel_rfl; kernel_rfl; conv => whnf) | (refine call_eq (h2) hC hasBody_32 ?_ ?_ ?_; kernel_rfl; kernel_rfl; conv => whnf) | (refine callq_eq (h2) hC hasBody_32 ?_ ?_ ?_; kernel_rfl; kernel_rfl; conv => whnf) | (refine brd (fun h => ?_) (fun h => ?_) <;> conv => whnf) | (refine br (fun h => ?_) (fun h => ?_) <;> conv => whnf) | (refine ret_now hE ?_; conv => whnf) | (intro hlen; conv => whnf))
  exact ⟨rfl, rfl⟩
end Go.Proofs.Ytcfinfdkmpgaaaa
