/- emit.Tag and the document's startText, walked. No conditions. -/
import Derived.Test.YtcfinfdkmpgaaaaRefEsc
import Derived.Test.YtcfinfdkmpgaaaaData
set_option linter.unusedSimpArgs false
set_option linter.unusedVariables false
set_option maxRecDepth 100000
namespace Go.Proofs.Ytcfinfdkmpgaaaa
open Go.RowKit

def attT (a : Atr) : List UInt8 := [32] ++ a.name ++ [61, 34] ++ escT true a.value ++ [34]
def stT (name : List UInt8) (attrs : List Atr) : List UInt8 := [60] ++ name ++ attrs.flatMap attT
theorem attT_len : ∀ l : List Atr, (∀ a ∈ l, a.name.length ≤ 2097152 ∧ a.value.length ≤ 2097152) → (l.flatMap attT).length ≤ l.length * 16777216
  | [], _ => by simp
  | a :: l, h => by
    have h1 := h a (List.mem_cons_self ..)
    have h2 := attT_len l (fun b hb => h b (List.mem_cons_of_mem _ hb))
    have h3 := escT_len true a.value
    rw [List.flatMap_cons, List.length_append]
    have : (attT a).length ≤ 16777216 := by
      unfold attT
      simp only [List.length_append, List.length_cons, List.length_nil]
      omega
    simp only [List.length_cons]
    omega
set_option maxHeartbeats 8000000 in
theorem doc_start (name : List UInt8) (attrs : List Atr) (hn : name.length ≤ 2097152) (h4 : attrs.length ≤ 1048576) (hA : ∀ a ∈ attrs, a.name.length ≤ 2097152 ∧ a.value.length ≤ 2097152) : Fn1 Try.prog 67 [.str name, .lst (attrs.map attA)] (fun r => r = .str (stT name attrs)) := by
  have ham : (attrs.map attA).length = attrs.length := by simp
  refine fn1E (T := Try.tt) Try.func67 rfl tt_all follows_all ?_ ?_ fun C hC hE => ?_
  · kernel_rfl
  · exact Nat.le_of_ble_eq_true (by kernel_rfl)
  conv => whnf
  repeat' (first | (refine brd_t (by first | assumption | omega) ?_; conv => whnf) | (refine brd_f (by first | assumption | omega) ?_; conv => whnf) | (refine ask (by first | assumption | omega) ?_; conv => whnf) | (refine fit64 (by omega) ?_; conv => whnf) | (refine fit (by simp only [kmin, kmax]; omega) ?_; conv => whnf) | (refine br_t (by assumption) ?_; conv => whnf) | (refine br_f (by assumption) ?_; conv => whnf) | (refine get_of (by assumption) ?_; conv => whnf) | (refine get_map (by assumption) ?_; conv => whnf) | (refine ask ?_ ?_; (simp; omega); conv => whnf) | (refine brd (fun h => ?_) (fun h => ?_) <;> conv => whnf) | (refine br (fun h => ?_) (fun h => ?_) <;> conv => whnf) | (refine ret_now hE ?_; conv => whnf) | (intro hlen; conv => whnf))
  refine loopE (fun ((k, o) : Nat × List UInt8) => ⟨29, [(5, .str o), (10, .lst (attrs.map attA)), (11, .int .i64 (attrs.map attA).length), (12, .int .i64 k)], []⟩)
    (fun (k, o) => k ≤ attrs.length ∧ o = [60] ++ name ++ (attrs.take k).flatMap attT) (fun (k, _) => attrs.length - k) (0, [60] ++ name) hE ?_ ?_ ⟨Nat.zero_le _, by simp⟩ ?_
  · kernel_rfl
  · exact at_keep [5, 10, 11, 12] rfl
  rintro ⟨k, o⟩ ⟨hk, ho⟩
  have hlo : o.length ≤ 2097153 + attrs.length * 16777216 := by
    rw [ho, List.length_append, List.length_append]
    have := attT_len (attrs.take k) (fun a ha => hA a (List.mem_of_mem_take ha))
    have h2 : (attrs.take k).length * 16777216 ≤ attrs.length * 16777216 := Nat.mul_le_mul_right _ (by rw [List.length_take]; omega)
    simp only [List.length_cons, List.length_nil]
    omega
  by_cases hlt : k < attrs.length
  · obtain ⟨a, hx⟩ : ∃ x, attrs[k]? = some x := ⟨_, List.getElem?_eq_getElem hlt⟩
    have ha := hA a (List.mem_of_getElem? hx)
    have hel := escT_len true a.value
    conv => whnf
    repeat' (first | (refine brd_t (by first | assumption | omega) ?_; conv => whnf) | (refine brd_f (by first | assumption | omega) ?_; conv => whnf) | (refine ask (by first | assumption | omega) ?_; conv => whnf) | (refine fit64 (by omega) ?_; conv => whnf) | (refine fit (by simp only [kmin, kmax]; omega) ?_; conv => whnf) | (refine br_t (by assumption) ?_; conv => whnf) | (refine br_f (by assumption) ?_; conv => whnf) | (refine get_of (by assumption) ?_; conv => whnf) | (refine get_map (by assumption) ?_; conv => whnf) | (refine call_eq (doc_esc a.value true (by omega)) hC hasBody_66 ?_ ?_ ?_; kernel_rfl; kernel_rfl; conv => whnf) | (refine callq_eq (doc_esc a.value true (by omega)) hC hasBody_66 ?_ ?_ ?_; kernel_rfl; kernel_rfl; conv => whnf) | (refine ask ?_ ?_; (simp; omega); conv => whnf) | (refine brd (fun h => ?_) (fun h => ?_) <;> conv => whnf) | (refine br (fun h => ?_) (fun h => ?_) <;> conv => whnf) | (refine ret_now hE ?_; conv => whnf) | (intro hlen; conv => whnf))
    exact next_drop [5, 10, 11, 12] [0] (k + 1, o ++ ([32] ++ a.name ++ [61, 34] ++ escT true a.value ++ [34])) ⟨hlt, by rw [List.take_add_one, hx, List.flatMap_append, ho]; simp [attT]⟩ (show attrs.length - (k + 1) < attrs.length - k by omega) rfl
  · conv => whnf
    repeat' (first | (refine brd_t (by first | assumption | omega) ?_; conv => whnf) | (refine brd_f (by first | assumption | omega) ?_; conv => whnf) | (refine ask (by first | assumption | omega) ?_; conv => whnf) | (refine fit64 (by omega) ?_; conv => whnf) | (refine fit (by simp only [kmin, kmax]; omega) ?_; conv => whnf) | (refine br_t (by assumption) ?_; conv => whnf) | (refine br_f (by assumption) ?_; conv => whnf) | (refine get_of (by assumption) ?_; conv => whnf) | (refine get_map (by assumption) ?_; conv => whnf) | (refine ask ?_ ?_; (simp; omega); conv => whnf) | (refine brd (fun h => ?_) (fun h => ?_) <;> conv => whnf) | (refine br (fun h => ?_) (fun h => ?_) <;> conv => whnf) | (refine ret_now hE ?_; conv => whnf) | (intro hlen; conv => whnf))
    refine ⟨rfl, ?_⟩
    rw [ho, List.take_of_length_le (by omega)]
    simp [stT]
set_option maxHeartbeats 8000000 in
theorem emit_tag (name : List UInt8) (attrs : List Atr) (self : Bool) (hn : name.length ≤ 2097152) (h4 : attrs.length ≤ 1048576) (hA : ∀ a ∈ attrs, a.name.length ≤ 2097152 ∧ a.value.length ≤ 2097152) : Fn1 Try.prog 62 [.str name, .lst (attrs.map attA), .bool self] (fun r => r = .str (stT name attrs ++ (if self = true then [47] else []) ++ [62])) := by
  have ham : (attrs.map attA).length = attrs.length := by simp
  cases self with
  | false =>
    refine fn1E (T := Try.tt) Try.func62 rfl tt_all follows_all ?_ ?_ fun C hC hE => ?_
    · kernel_rfl
    · exact Nat.le_of_ble_eq_true (by kernel_rfl)
    conv => whnf
    repeat' (first | (refine brd_t (by first | assumption | omega) ?_; conv => whnf) | (refine brd_f (by first | assumption | omega) ?_; conv => whnf) | (refine ask (by first | assumption | omega) ?_; conv => whnf) | (refine fit64 (by omega) ?_; conv => whnf) | (refine fit (by simp only [kmin, kmax]; omega) ?_; conv => whnf) | (refine br_t (by assumption) ?_; conv => whnf) | (refine br_f (by assumption) ?_; conv => whnf) | (refine get_of (by assumption) ?_; conv => whnf) | (refine get_map (by assumption) ?_; conv => whnf) | (refine ask ?_ ?_; (simp; omega); conv => whnf) | (refine brd (fun h => ?_) (fun h => ?_) <;> conv => whnf) | (refine br (fun h => ?_) (fun h => ?_) <;> conv => whnf) | (refine ret_now hE ?_; conv => whnf) | (intro hlen; conv => whnf))
    refine loopE (fun ((k, o) : Nat × List UInt8) => ⟨35, [(2, .bool false), (7, .str o), (12, .lst (attrs.map attA)), (13, .int .i64 (attrs.map attA).length), (14, .int .i64 k)], []⟩)
      (fun (k, o) => k ≤ attrs.length ∧ o = [60] ++ name ++ (attrs.take k).flatMap attT) (fun (k, _) => attrs.length - k) (0, [60] ++ name) hE ?_ ?_ ⟨Nat.zero_le _, by simp⟩ ?_
    · kernel_rfl
    · exact at_keep [2, 7, 12, 13, 14] rfl
    rintro ⟨k, o⟩ ⟨hk, ho⟩
    have hlo : o.length ≤ 2097153 + attrs.length * 16777216 := by
      rw [ho, List.length_append, List.length_append]
      have := attT_len (attrs.take k) (fun a ha => hA a (List.mem_of_mem_take ha))
      have h2 : (attrs.take k).length * 16777216 ≤ attrs.length * 16777216 := Nat.mul_le_mul_right _ (by rw [List.length_take]; omega)
      simp only [List.length_cons, List.length_nil]
      omega
    by_cases hlt : k < attrs.length
    · obtain ⟨a, hx⟩ : ∃ x, attrs[k]? = some x := ⟨_, List.getElem?_eq_getElem hlt⟩
      have ha := hA a (List.mem_of_getElem? hx)
      have hel := escT_len true a.value
      conv => whnf
      repeat' (first | (refine brd_t (by first | assumption | omega) ?_; conv => whnf) | (refine brd_f (by first | assumption | omega) ?_; conv => whnf) | (refine ask (by first | assumption | omega) ?_; conv => whnf) | (refine fit64 (by omega) ?_; conv => whnf) | (refine fit (by simp only [kmin, kmax]; omega) ?_; conv => whnf) | (refine br_t (by assumption) ?_; conv => whnf) | (refine br_f (by assumption) ?_; conv => whnf) | (refine get_of (by assumption) ?_; conv => whnf) | (refine get_map (by assumption) ?_; conv => whnf) | (refine call_eq (ref_esc a.value true (by omega)) hC hasBody_63 ?_ ?_ ?_; kernel_rfl; kernel_rfl; conv => whnf) | (refine callq_eq (ref_esc a.value true (by omega)) hC hasBody_63 ?_ ?_ ?_; kernel_rfl; kernel_rfl; conv => whnf) | (refine ask ?_ ?_; (simp; omega); conv => whnf) | (refine brd (fun h => ?_) (fun h => ?_) <;> conv => whnf) | (refine br (fun h => ?_) (fun h => ?_) <;> conv => whnf) | (refine ret_now hE ?_; conv => whnf) | (intro hlen; conv => whnf))
      exact next_drop [2, 7, 12, 13, 14] [0] (k + 1, o ++ ([32] ++ a.name ++ [61, 34] ++ escT true a.value ++ [34])) ⟨hlt, by rw [List.take_add_one, hx, List.flatMap_append, ho]; simp [attT]⟩ (show attrs.length - (k + 1) < attrs.length - k by omega) rfl
    · conv => whnf
      repeat' (first | (refine brd_t (by first | assumption | omega) ?_; conv => whnf) | (refine brd_f (by first | assumption | omega) ?_; conv => whnf) | (refine ask (by first | assumption | omega) ?_; conv => whnf) | (refine fit64 (by omega) ?_; conv => whnf) | (refine fit (by simp only [kmin, kmax]; omega) ?_; conv => whnf) | (refine br_t (by assumption) ?_; conv => whnf) | (refine br_f (by assumption) ?_; conv => whnf) | (refine get_of (by assumption) ?_; conv => whnf) | (refine get_map (by assumption) ?_; conv => whnf) | (refine ask ?_ ?_; (simp; omega); conv => whnf) | (refine brd (fun h => ?_) (fun h => ?_) <;> conv => whnf) | (refine br (fun h => ?_) (fun h => ?_) <;> conv => whnf) | (refine ret_now hE ?_; conv => whnf) | (intro hlen; conv => whnf))
      refine ⟨rfl, ?_⟩
      rw [ho, List.take_of_length_le (by omega)]
      simp [stT]
  | true =>
    refine fn1E (T := Try.tt) Try.func62 rfl tt_all follows_all ?_ ?_ fun C hC hE => ?_
    · kernel_rfl
    · exact Nat.le_of_ble_eq_true (by kernel_rfl)
    conv => whnf
    repeat' (first | (refine brd_t (by first | assumption | omega) ?_; conv => whnf) | (refine brd_f (by first | assumption | omega) ?_; conv => whnf) | (refine ask (by first | assumption | omega) ?_; conv => whnf) | (refine fit64 (by omega) ?_; conv => whnf) | (refine fit (by simp only [kmin, kmax]; omega) ?_; conv => whnf) | (refine br_t (by assumption) ?_; conv => whnf) | (refine br_f (by assumption) ?_; conv => whnf) | (refine get_of (by assumption) ?_; conv => whnf) | (refine get_map (by assumption) ?_; conv => whnf) | (refine ask ?_ ?_; (simp; omega); conv => whnf) | (refine brd (fun h => ?_) (fun h => ?_) <;> conv => whnf) | (refine br (fun h => ?_) (fun h => ?_) <;> conv => whnf) | (refine ret_now hE ?_; conv => whnf) | (intro hlen; conv => whnf))
    refine loopE (fun ((k, o) : Nat × List UInt8) => ⟨35, [(2, .bool true), (7, .str o), (12, .lst (attrs.map attA)), (13, .int .i64 (attrs.map attA).length), (14, .int .i64 k)], []⟩)
      (fun (k, o) => k ≤ attrs.length ∧ o = [60] ++ name ++ (attrs.take k).flatMap attT) (fun (k, _) => attrs.length - k) (0, [60] ++ name) hE ?_ ?_ ⟨Nat.zero_le _, by simp⟩ ?_
    · kernel_rfl
    · exact at_keep [2, 7, 12, 13, 14] rfl
    rintro ⟨k, o⟩ ⟨hk, ho⟩
    have hlo : o.length ≤ 2097153 + attrs.length * 16777216 := by
      rw [ho, List.length_append, List.length_append]
      have := attT_len (attrs.take k) (fun a ha => hA a (List.mem_of_mem_take ha))
      have h2 : (attrs.take k).length * 16777216 ≤ attrs.length * 16777216 := Nat.mul_le_mul_right _ (by rw [List.length_take]; omega)
      simp only [List.length_cons, List.length_nil]
      omega
    by_cases hlt : k < attrs.length
    · obtain ⟨a, hx⟩ : ∃ x, attrs[k]? = some x := ⟨_, List.getElem?_eq_getElem hlt⟩
      have ha := hA a (List.mem_of_getElem? hx)
      have hel := escT_len true a.value
      conv => whnf
      repeat' (first | (refine brd_t (by first | assumption | omega) ?_; conv => whnf) | (refine brd_f (by first | assumption | omega) ?_; conv => whnf) | (refine ask (by first | assumption | omega) ?_; conv => whnf) | (refine fit64 (by omega) ?_; conv => whnf) | (refine fit (by simp only [kmin, kmax]; omega) ?_; conv => whnf) | (refine br_t (by assumption) ?_; conv => whnf) | (refine br_f (by assumption) ?_; conv => whnf) | (refine get_of (by assumption) ?_; conv => whnf) | (refine get_map (by assumption) ?_; conv => whnf) | (refine call_eq (ref_esc a.value true (by omega)) hC hasBody_63 ?_ ?_ ?_; kernel_rfl; kernel_rfl; conv => whnf) | (refine callq_eq (ref_esc a.value true (by omega)) hC hasBody_63 ?_ ?_ ?_; kernel_rfl; kernel_rfl; conv => whnf) | (refine ask ?_ ?_; (simp; omega); conv => whnf) | (refine brd (fun h => ?_) (fun h => ?_) <;> conv => whnf) | (refine br (fun h => ?_) (fun h => ?_) <;> conv => whnf) | (refine ret_now hE ?_; conv => whnf) | (intro hlen; conv => whnf))
      exact next_drop [2, 7, 12, 13, 14] [0] (k + 1, o ++ ([32] ++ a.name ++ [61, 34] ++ escT true a.value ++ [34])) ⟨hlt, by rw [List.take_add_one, hx, List.flatMap_append, ho]; simp [attT]⟩ (show attrs.length - (k + 1) < attrs.length - k by omega) rfl
    · conv => whnf
      repeat' (first | (refine brd_t (by first | assumption | omega) ?_; conv => whnf) | (refine brd_f (by first | assumption | omega) ?_; conv => whnf) | (refine ask (by first | assumption | omega) ?_; conv => whnf) | (refine fit64 (by omega) ?_; conv => whnf) | (refine fit (by simp only [kmin, kmax]; omega) ?_; conv => whnf) | (refine br_t (by assumption) ?_; conv => whnf) | (refine br_f (by assumption) ?_; conv => whnf) | (refine get_of (by assumption) ?_; conv => whnf) | (refine get_map (by assumption) ?_; conv => whnf) | (refine ask ?_ ?_; (simp; omega); conv => whnf) | (refine brd (fun h => ?_) (fun h => ?_) <;> conv => whnf) | (refine br (fun h => ?_) (fun h => ?_) <;> conv => whnf) | (refine ret_now hE ?_; conv => whnf) | (intro hlen; conv => whnf))
      refine ⟨rfl, ?_⟩
      rw [ho, List.take_of_length_le (by omega)]
      simp [stT]
end Go.Proofs.Ytcfinfdkmpgaaaa
