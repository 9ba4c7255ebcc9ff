/- show.Text and the document's ShowText, walked; the law ShowTexts. No conditions. -/
import Derived.Test.YtcfinfdkmpgaaaaShow
import Derived.Test.YtcfinfdkmpgaaaaTag
set_option linter.unusedSimpArgs false
set_option linter.unusedVariables false
set_option maxRecDepth 100000
namespace Go.Proofs.Ytcfinfdkmpgaaaa
open Go.RowKit

mutual
def txN : Nd → List UInt8
  | .mk n a t ps => if n = [] then escT false t else if n ∈ voidL then stT n a ++ [62] else stT n a ++ [62] ++ txL ps ++ [60, 47] ++ n ++ [62]
def txL : List Nd → List UInt8
  | [] => []
  | x :: xs => txN x ++ txL xs
end
theorem txL_step {l : List Nd} {k : Nat} {x : Nd} (hx : l[k]? = some x) : txL (l.drop k) = txN x ++ txL (l.drop (k + 1)) := by
  obtain ⟨hlt, rfl⟩ := List.getElem?_eq_some_iff.1 hx
  rw [List.drop_eq_getElem_cons hlt, txL]
theorem attT_sz : ∀ l : List Atr, (l.flatMap attT).length ≤ 8 * (l.map szA).sum
  | [] => by simp
  | a :: l => by
    have h2 := attT_sz l
    have h3 := escT_len true a.value
    have e2 : szA a = (a.name.length + 1) + (a.value.length + 1) + 1 := rfl
    rw [List.flatMap_cons, List.length_append, List.map_cons, List.sum_cons]
    have : (attT a).length ≤ 8 * szA a := by
      unfold attT
      simp only [List.length_append, List.length_cons, List.length_nil]
      omega
    omega
theorem stT_sz (n : List UInt8) (a : List Atr) : (stT n a).length ≤ 8 * (a.map szA).sum + n.length + 1 := by
  have := attT_sz a
  unfold stT
  simp only [List.length_append, List.length_cons, List.length_nil]
  omega
mutual
theorem txN_len : ∀ x : Nd, (txN x).length ≤ 8 * szN x
  | .mk n a t ps => by
    have h1 := stT_sz n a
    have h2 := txL_len ps
    have h3 := escT_len false t
    have e1 : szN (.mk n a t ps) = (n.length + 1) + ((a.map szA).sum + 1) + (t.length + 1) + (szL ps + 1) + 1 := by simp only [szN, szS]
    rw [txN]
    split
    · omega
    · split
      · simp only [List.length_append, List.length_cons, List.length_nil]; omega
      · simp only [List.length_append, List.length_cons, List.length_nil]; omega
theorem txL_len : ∀ l : List Nd, (txL l).length ≤ 8 * szL l
  | [] => by simp [txL]
  | x :: xs => by
    have h1 := txN_len x
    have h2 := txL_len xs
    rw [txL, List.length_append, szL]
    omega
end
set_option maxHeartbeats 16000000 in
theorem show_of : ∀ (N : Nat) (l : List Nd), szL l ≤ N → N ≤ 1048576 → Fn1 Try.prog 68 [.lst (nodesL l)] (fun r => r = .str (txL l)) := by
  intro N
  induction N using Nat.strongRecOn with
  | _ N ih =>
    intro l hps hN
    have hlm := nodesL_length l
    have htot := txL_len l
    refine fn1E (T := Try.tt) Try.func68 rfl tt_all follows_all ?_ ?_ fun C hC hE => ?_
    · kernel_rfl
    · exact Nat.le_of_ble_eq_true (by kernel_rfl)
    conv => whnf
    repeat' (first | (refine brd_t (by first | assumption | omega) ?_; conv => whnf) | (refine brd_f (by first | assumption | omega) ?_; conv => whnf) | (refine ask (by first | assumption | omega) ?_; conv => whnf) | (refine fit64 (by omega) ?_; conv => whnf) | (refine fit (by simp only [kmin, kmax]; omega) ?_; conv => whnf) | (refine br_t (by assumption) ?_; conv => whnf) | (refine br_f (by assumption) ?_; conv => whnf) | (refine get_of (by assumption) ?_; conv => whnf) | (refine get_map (by assumption) ?_; conv => whnf) | (refine brd (fun h => ?_) (fun h => ?_) <;> conv => whnf) | (refine br (fun h => ?_) (fun h => ?_) <;> conv => whnf) | (refine ret_now hE ?_; conv => whnf) | (intro hlen; conv => whnf))
    refine loopE (fun ((k, o) : Nat × List UInt8) => ⟨50, [(3, .str o), (6, .lst (nodesL l)), (7, .int .i64 (nodesL l).length), (8, .int .i64 k)], []⟩) (fun (k, o) => k ≤ l.length ∧ o ++ txL (l.drop k) = txL l) (fun (k, _) => l.length - k) (0, []) hE ?_ ?_ ⟨Nat.zero_le _, by simp⟩ ?_
    · kernel_rfl
    · exact at_keep [3, 6, 7, 8] rfl
    rintro ⟨k, o⟩ ⟨hk, hI⟩
    have hlo : o.length ≤ 8388608 := by
      have := congrArg List.length hI
      rw [List.length_append] at this
      omega
    by_cases hlt : k < l.length
    · obtain ⟨n, a, t, qs, hx, hx'⟩ := node_at hlt
      have hp2 := szL_mem (List.mem_of_getElem? hx)
      have hp1 : szL qs < szN (.mk n a t qs) := szP (n := .mk n a t qs)
      have e1 : szN (.mk n a t qs) = (n.length + 1) + ((a.map szA).sum + 1) + (t.length + 1) + (szL qs + 1) + 1 := by simp only [szN, szS]
      have hla : (a.map attA).length = a.length := by simp
      have hal := szA_len a
      have hab : ∀ b ∈ a, b.name.length ≤ 2097152 ∧ b.value.length ≤ 2097152 := fun b hb => by
        have h2 := mem_sum szA a b hb
        have e2 : szA b = (b.name.length + 1) + (b.value.length + 1) + 1 := rfl
        omega
      have hst := txL_step hx
      have hs1 := stT_sz n a
      have hs2 := txL_len qs
      have hs3 := escT_len false t
      have ih' := ih (szL qs) (by omega) qs (Nat.le_refl _) (by omega)
      have hV := show_void n
      have hT := emit_tag n a false (by omega) (by omega) hab
      rw [if_neg (by decide), List.append_nil] at hT
      by_cases hn : n = []
      · have htx : txN (.mk n a t qs) = escT false t := by rw [txN, if_pos hn]
        conv => whnf
        repeat' (first | (refine brd_t (by first | assumption | omega) ?_; conv => whnf) | (refine brd_f (by first | assumption | omega) ?_; conv => whnf) | (refine ask (by first | assumption | omega) ?_; conv => whnf) | (refine fit64 (by omega) ?_; conv => whnf) | (refine fit (by simp only [kmin, kmax]; omega) ?_; conv => whnf) | (refine br_t (by assumption) ?_; conv => whnf) | (refine br_f (by assumption) ?_; conv => whnf) | (refine get_of (by assumption) ?_; conv => whnf) | (refine get_map (by assumption) ?_; conv => whnf) | (refine ask ?_ ?_; (first | omega | (simp; omega)); conv => whnf) | (refine call_eq (ref_esc t false (by omega)) hC hasBody_63 ?_ ?_ ?_; kernel_rfl; kernel_rfl; conv => whnf) | (refine callq_eq (ref_esc t false (by omega)) hC hasBody_63 ?_ ?_ ?_; kernel_rfl; kernel_rfl; conv => whnf) | (refine call_eq (hV) hC hasBody_86 ?_ ?_ ?_; kernel_rfl; kernel_rfl; conv => whnf) | (refine callq_eq (hV) hC hasBody_86 ?_ ?_ ?_; kernel_rfl; kernel_rfl; conv => whnf) | (refine call_eq (hT) hC hasBody_62 ?_ ?_ ?_; kernel_rfl; kernel_rfl; conv => whnf) | (refine callq_eq (hT) hC hasBody_62 ?_ ?_ ?_; kernel_rfl; kernel_rfl; conv => whnf) | (refine call_eq (ih') hC hasBody_68 ?_ ?_ ?_; kernel_rfl; kernel_rfl; conv => whnf) | (refine callq_eq (ih') hC hasBody_68 ?_ ?_ ?_; kernel_rfl; kernel_rfl; conv => whnf) | (refine brd (fun h => ?_) (fun h => ?_) <;> conv => whnf) | (refine br (fun h => ?_) (fun h => ?_) <;> conv => whnf) | (refine ret_now hE ?_; conv => whnf) | (intro hlen; conv => whnf))
        exact next_drop [3, 6, 7, 8] [0] (k + 1, o ++ escT false t) ⟨hlt, by rw [← hI, hst, htx]; simp⟩ (show l.length - (k + 1) < l.length - k by omega) rfl
      by_cases hv : n ∈ voidL
      · have htx : txN (.mk n a t qs) = stT n a ++ [62] := by rw [txN, if_neg hn, if_pos hv]
        rw [decide_eq_true hv] at hV
        conv => whnf
        repeat' (first | (refine brd_t (by first | assumption | omega) ?_; conv => whnf) | (refine brd_f (by first | assumption | omega) ?_; conv => whnf) | (refine ask (by first | assumption | omega) ?_; conv => whnf) | (refine fit64 (by omega) ?_; conv => whnf) | (refine fit (by simp only [kmin, kmax]; omega) ?_; conv => whnf) | (refine br_t (by assumption) ?_; conv => whnf) | (refine br_f (by assumption) ?_; conv => whnf) | (refine get_of (by assumption) ?_; conv => whnf) | (refine get_map (by assumption) ?_; conv => whnf) | (refine ask ?_ ?_; (first | omega | (simp; omega)); conv => whnf) | (refine call_eq (ref_esc t false (by omega)) hC hasBody_63 ?_ ?_ ?_; kernel_rfl; kernel_rfl; conv => whnf) | (refine callq_eq (ref_esc t false (by omega)) hC hasBody_63 ?_ ?_ ?_; kernel_rfl; kernel_rfl; conv => whnf) | (refine call_eq (hV) hC hasBody_86 ?_ ?_ ?_; kernel_rfl; kernel_rfl; conv => whnf) | (refine callq_eq (hV) hC hasBody_86 ?_ ?_ ?_; kernel_rfl; kernel_rfl; conv => whnf) | (refine call_eq (hT) hC hasBody_62 ?_ ?_ ?_; kernel_rfl; kernel_rfl; conv => whnf) | (refine callq_eq (hT) hC hasBody_62 ?_ ?_ ?_; kernel_rfl; kernel_rfl; conv => whnf) | (refine call_eq (ih') hC hasBody_68 ?_ ?_ ?_; kernel_rfl; kernel_rfl; conv => whnf) | (refine callq_eq (ih') hC hasBody_68 ?_ ?_ ?_; kernel_rfl; kernel_rfl; conv => whnf) | (refine brd (fun h => ?_) (fun h => ?_) <;> conv => whnf) | (refine br (fun h => ?_) (fun h => ?_) <;> conv => whnf) | (refine ret_now hE ?_; conv => whnf) | (intro hlen; conv => whnf))
        exact next_drop [3, 6, 7, 8] [0] (k + 1, o ++ (stT n a ++ [62])) ⟨hlt, by rw [← hI, hst, htx]; simp⟩ (show l.length - (k + 1) < l.length - k by omega) rfl
      · have htx : txN (.mk n a t qs) = stT n a ++ [62] ++ txL qs ++ [60, 47] ++ n ++ [62] := by rw [txN, if_neg hn, if_neg hv]
        rw [decide_eq_false hv] at hV
        conv => whnf
        repeat' (first | (refine brd_t (by first | assumption | omega) ?_; conv => whnf) | (refine brd_f (by first | assumption | omega) ?_; conv => whnf) | (refine ask (by first | assumption | omega) ?_; conv => whnf) | (refine fit64 (by omega) ?_; conv => whnf) | (refine fit (by simp only [kmin, kmax]; omega) ?_; conv => whnf) | (refine br_t (by assumption) ?_; conv => whnf) | (refine br_f (by assumption) ?_; conv => whnf) | (refine get_of (by assumption) ?_; conv => whnf) | (refine get_map (by assumption) ?_; conv => whnf) | (refine ask ?_ ?_; (first | omega | (simp; omega)); conv => whnf) | (refine call_eq (ref_esc t false (by omega)) hC hasBody_63 ?_ ?_ ?_; kernel_rfl; kernel_rfl; conv => whnf) | (refine callq_eq (ref_esc t false (by omega)) hC hasBody_63 ?_ ?_ ?_; kernel_rfl; kernel_rfl; conv => whnf) | (refine call_eq (hV) hC hasBody_86 ?_ ?_ ?_; kernel_rfl; kernel_rfl; conv => whnf) | (refine callq_eq (hV) hC hasBody_86 ?_ ?_ ?_; kernel_rfl; kernel_rfl; conv => whnf) | (refine call_eq (hT) hC hasBody_62 ?_ ?_ ?_; kernel_rfl; kernel_rfl; conv => whnf) | (refine callq_eq (hT) hC hasBody_62 ?_ ?_ ?_; kernel_rfl; kernel_rfl; conv => whnf) | (refine call_eq (ih') hC hasBody_68 ?_ ?_ ?_; kernel_rfl; kernel_rfl; conv => whnf) | (refine callq_eq (ih') hC hasBody_68 ?_ ?_ ?_; kernel_rfl; kernel_rfl; conv => whnf) | (refine brd (fun h => ?_) (fun h => ?_) <;> conv => whnf) | (refine br (fun h => ?_) (fun h => ?_) <;> conv => whnf) | (refine ret_now hE ?_; conv => whnf) | (intro hlen; conv => whnf))
        exact next_drop [3, 6, 7, 8] [0] (k + 1, o ++ (stT n a ++ [62] ++ txL qs ++ [60, 47] ++ n ++ [62])) ⟨hlt, by rw [← hI, hst, htx]; simp⟩ (show l.length - (k + 1) < l.length - k by omega) rfl
    · conv => whnf
      repeat' (first | (refine brd_t (by first | assumption | omega) ?_; conv => whnf) | (refine brd_f (by first | assumption | omega) ?_; conv => whnf) | (refine ask (by first | assumption | omega) ?_; conv => whnf) | (refine fit64 (by omega) ?_; conv => whnf) | (refine fit (by simp only [kmin, kmax]; omega) ?_; conv => whnf) | (refine br_t (by assumption) ?_; conv => whnf) | (refine br_f (by assumption) ?_; conv => whnf) | (refine get_of (by assumption) ?_; conv => whnf) | (refine get_map (by assumption) ?_; conv => whnf) | (refine brd (fun h => ?_) (fun h => ?_) <;> conv => whnf) | (refine br (fun h => ?_) (fun h => ?_) <;> conv => whnf) | (refine ret_now hE ?_; conv => whnf) | (intro hlen; conv => whnf))
      refine ⟨rfl, ?_⟩
      rw [List.drop_eq_nil_of_le (by omega), txL, List.append_nil] at hI
      rw [hI]
set_option maxHeartbeats 16000000 in
theorem doc_of : ∀ (N : Nat) (l : List Nd), szL l ≤ N → N ≤ 1048576 → Fn1 Try.prog 69 [.lst (nodesL l)] (fun r => r = .str (txL l)) := by
  intro N
  induction N using Nat.strongRecOn with
  | _ N ih =>
    intro l hps hN
    have hlm := nodesL_length l
    have htot := txL_len l
    refine fn1E (T := Try.tt) Try.func69 rfl tt_all follows_all ?_ ?_ fun C hC hE => ?_
    · kernel_rfl
    · exact Nat.le_of_ble_eq_true (by kernel_rfl)
    conv => whnf
    repeat' (first | (refine brd_t (by first | assumption | omega) ?_; conv => whnf) | (refine brd_f (by first | assumption | omega) ?_; conv => whnf) | (refine ask (by first | assumption | omega) ?_; conv => whnf) | (refine fit64 (by omega) ?_; conv => whnf) | (refine fit (by simp only [kmin, kmax]; omega) ?_; conv => whnf) | (refine br_t (by assumption) ?_; conv => whnf) | (refine br_f (by assumption) ?_; conv => whnf) | (refine get_of (by assumption) ?_; conv => whnf) | (refine get_map (by assumption) ?_; conv => whnf) | (refine brd (fun h => ?_) (fun h => ?_) <;> conv => whnf) | (refine br (fun h => ?_) (fun h => ?_) <;> conv => whnf) | (refine ret_now hE ?_; conv => whnf) | (intro hlen; conv => whnf))
    refine loopE (fun ((k, o) : Nat × List UInt8) => ⟨44, [(3, .str o), (6, .lst (nodesL l)), (7, .int .i64 (nodesL l).length), (8, .int .i64 k)], []⟩) (fun (k, o) => k ≤ l.length ∧ o ++ txL (l.drop k) = txL l) (fun (k, _) => l.length - k) (0, []) hE ?_ ?_ ⟨Nat.zero_le _, by simp⟩ ?_
    · kernel_rfl
    · exact at_keep [3, 6, 7, 8] rfl
    rintro ⟨k, o⟩ ⟨hk, hI⟩
    have hlo : o.length ≤ 8388608 := by
      have := congrArg List.length hI
      rw [List.length_append] at this
      omega
    by_cases hlt : k < l.length
    · obtain ⟨n, a, t, qs, hx, hx'⟩ := node_at hlt
      have hp2 := szL_mem (List.mem_of_getElem? hx)
      have hp1 : szL qs < szN (.mk n a t qs) := szP (n := .mk n a t qs)
      have e1 : szN (.mk n a t qs) = (n.length + 1) + ((a.map szA).sum + 1) + (t.length + 1) + (szL qs + 1) + 1 := by simp only [szN, szS]
      have hla : (a.map attA).length = a.length := by simp
      have hal := szA_len a
      have hab : ∀ b ∈ a, b.name.length ≤ 2097152 ∧ b.value.length ≤ 2097152 := fun b hb => by
        have h2 := mem_sum szA a b hb
        have e2 : szA b = (b.name.length + 1) + (b.value.length + 1) + 1 := rfl
        omega
      have hst := txL_step hx
      have hs1 := stT_sz n a
      have hs2 := txL_len qs
      have hs3 := escT_len false t
      have ih' := ih (szL qs) (by omega) qs (Nat.le_refl _) (by omega)
      have hV := is_void n
      have hT := doc_start n a (by omega) (by omega) hab
      by_cases hn : n = []
      · have htx : txN (.mk n a t qs) = escT false t := by rw [txN, if_pos hn]
        conv => whnf
        repeat' (first | (refine brd_t (by first | assumption | omega) ?_; conv => whnf) | (refine brd_f (by first | assumption | omega) ?_; conv => whnf) | (refine ask (by first | assumption | omega) ?_; conv => whnf) | (refine fit64 (by omega) ?_; conv => whnf) | (refine fit (by simp only [kmin, kmax]; omega) ?_; conv => whnf) | (refine br_t (by assumption) ?_; conv => whnf) | (refine br_f (by assumption) ?_; conv => whnf) | (refine get_of (by assumption) ?_; conv => whnf) | (refine get_map (by assumption) ?_; conv => whnf) | (refine ask ?_ ?_; (first | omega | (simp; omega)); conv => whnf) | (refine call_eq (doc_esc t false (by omega)) hC hasBody_66 ?_ ?_ ?_; kernel_rfl; kernel_rfl; conv => whnf) | (refine callq_eq (doc_esc t false (by omega)) hC hasBody_66 ?_ ?_ ?_; kernel_rfl; kernel_rfl; conv => whnf) | (refine call_eq (hV) hC hasBody_88 ?_ ?_ ?_; kernel_rfl; kernel_rfl; conv => whnf) | (refine callq_eq (hV) hC hasBody_88 ?_ ?_ ?_; kernel_rfl; kernel_rfl; conv => whnf) | (refine call_eq (hT) hC hasBody_67 ?_ ?_ ?_; kernel_rfl; kernel_rfl; conv => whnf) | (refine callq_eq (hT) hC hasBody_67 ?_ ?_ ?_; kernel_rfl; kernel_rfl; conv => whnf) | (refine call_eq (ih') hC hasBody_69 ?_ ?_ ?_; kernel_rfl; kernel_rfl; conv => whnf) | (refine callq_eq (ih') hC hasBody_69 ?_ ?_ ?_; kernel_rfl; kernel_rfl; conv => whnf) | (refine brd (fun h => ?_) (fun h => ?_) <;> conv => whnf) | (refine br (fun h => ?_) (fun h => ?_) <;> conv => whnf) | (refine ret_now hE ?_; conv => whnf) | (intro hlen; conv => whnf))
        exact next_drop [3, 6, 7, 8] [0] (k + 1, o ++ escT false t) ⟨hlt, by rw [← hI, hst, htx]; simp⟩ (show l.length - (k + 1) < l.length - k by omega) rfl
      by_cases hv : n ∈ voidL
      · have htx : txN (.mk n a t qs) = stT n a ++ [62] := by rw [txN, if_neg hn, if_pos hv]
        rw [decide_eq_true hv] at hV
        conv => whnf
        repeat' (first | (refine brd_t (by first | assumption | omega) ?_; conv => whnf) | (refine brd_f (by first | assumption | omega) ?_; conv => whnf) | (refine ask (by first | assumption | omega) ?_; conv => whnf) | (refine fit64 (by omega) ?_; conv => whnf) | (refine fit (by simp only [kmin, kmax]; omega) ?_; conv => whnf) | (refine br_t (by assumption) ?_; conv => whnf) | (refine br_f (by assumption) ?_; conv => whnf) | (refine get_of (by assumption) ?_; conv => whnf) | (refine get_map (by assumption) ?_; conv => whnf) | (refine ask ?_ ?_; (first | omega | (simp; omega)); conv => whnf) | (refine call_eq (doc_esc t false (by omega)) hC hasBody_66 ?_ ?_ ?_; kernel_rfl; kernel_rfl; conv => whnf) | (refine callq_eq (doc_esc t false (by omega)) hC hasBody_66 ?_ ?_ ?_; kernel_rfl; kernel_rfl; conv => whnf) | (refine call_eq (hV) hC hasBody_88 ?_ ?_ ?_; kernel_rfl; kernel_rfl; conv => whnf) | (refine callq_eq (hV) hC hasBody_88 ?_ ?_ ?_; kernel_rfl; kernel_rfl; conv => whnf) | (refine call_eq (hT) hC hasBody_67 ?_ ?_ ?_; kernel_rfl; kernel_rfl; conv => whnf) | (refine callq_eq (hT) hC hasBody_67 ?_ ?_ ?_; kernel_rfl; kernel_rfl; conv => whnf) | (refine call_eq (ih') hC hasBody_69 ?_ ?_ ?_; kernel_rfl; kernel_rfl; conv => whnf) | (refine callq_eq (ih') hC hasBody_69 ?_ ?_ ?_; kernel_rfl; kernel_rfl; conv => whnf) | (refine brd (fun h => ?_) (fun h => ?_) <;> conv => whnf) | (refine br (fun h => ?_) (fun h => ?_) <;> conv => whnf) | (refine ret_now hE ?_; conv => whnf) | (intro hlen; conv => whnf))
        exact next_drop [3, 6, 7, 8] [0] (k + 1, o ++ (stT n a ++ [62])) ⟨hlt, by rw [← hI, hst, htx]; simp⟩ (show l.length - (k + 1) < l.length - k by omega) rfl
      · have htx : txN (.mk n a t qs) = stT n a ++ [62] ++ txL qs ++ [60, 47] ++ n ++ [62] := by rw [txN, if_neg hn, if_neg hv]
        rw [decide_eq_false hv] at hV
        conv => whnf
        repeat' (first | (refine brd_t (by first | assumption | omega) ?_; conv => whnf) | (refine brd_f (by first | assumption | omega) ?_; conv => whnf) | (refine ask (by first | assumption | omega) ?_; conv => whnf) | (refine fit64 (by omega) ?_; conv => whnf) | (refine fit (by simp only [kmin, kmax]; omega) ?_; conv => whnf) | (refine br_t (by assumption) ?_; conv => whnf) | (refine br_f (by assumption) ?_; conv => whnf) | (refine get_of (by assumption) ?_; conv => whnf) | (refine get_map (by assumption) ?_; conv => whnf) | (refine ask ?_ ?_; (first | omega | (simp; omega)); conv => whnf) | (refine call_eq (doc_esc t false (by omega)) hC hasBody_66 ?_ ?_ ?_; kernel_rfl; kernel_rfl; conv => whnf) | (refine callq_eq (doc_esc t false (by omega)) hC hasBody_66 ?_ ?_ ?_; kernel_rfl; kernel_rfl; conv => whnf) | (refine call_eq (hV) hC hasBody_88 ?_ ?_ ?_; kernel_rfl; kernel_rfl; conv => whnf) | (refine callq_eq (hV) hC hasBody_88 ?_ ?_ ?_; kernel_rfl; kernel_rfl; conv => whnf) | (refine call_eq (hT) hC hasBody_67 ?_ ?_ ?_; kernel_rfl; kernel_rfl; conv => whnf) | (refine callq_eq (hT) hC hasBody_67 ?_ ?_ ?_; kernel_rfl; kernel_rfl; conv => whnf) | (refine call_eq (ih') hC hasBody_69 ?_ ?_ ?_; kernel_rfl; kernel_rfl; conv => whnf) | (refine callq_eq (ih') hC hasBody_69 ?_ ?_ ?_; kernel_rfl; kernel_rfl; conv => whnf) | (refine brd (fun h => ?_) (fun h => ?_) <;> conv => whnf) | (refine br (fun h => ?_) (fun h => ?_) <;> conv => whnf) | (refine ret_now hE ?_; conv => whnf) | (intro hlen; conv => whnf))
        exact next_drop [3, 6, 7, 8] [0] (k + 1, o ++ (stT n a ++ [62]) ++ (txL qs ++ [60, 47] ++ n ++ [62])) ⟨hlt, by rw [← hI, hst, htx]; simp⟩ (show l.length - (k + 1) < l.length - k by omega) rfl
    · conv => whnf
      repeat' (first | (refine brd_t (by first | assumption | omega) ?_; conv => whnf) | (refine brd_f (by first | assumption | omega) ?_; conv => whnf) | (refine ask (by first | assumption | omega) ?_; conv => whnf) | (refine fit64 (by omega) ?_; conv => whnf) | (refine fit (by simp only [kmin, kmax]; omega) ?_; conv => whnf) | (refine br_t (by assumption) ?_; conv => whnf) | (refine br_f (by assumption) ?_; conv => whnf) | (refine get_of (by assumption) ?_; conv => whnf) | (refine get_map (by assumption) ?_; conv => whnf) | (refine brd (fun h => ?_) (fun h => ?_) <;> conv => whnf) | (refine br (fun h => ?_) (fun h => ?_) <;> conv => whnf) | (refine ret_now hE ?_; conv => whnf) | (intro hlen; conv => whnf))
      refine ⟨rfl, ?_⟩
      rw [List.drop_eq_nil_of_le (by omega), txL, List.append_nil] at hI
      rw [hI]
def showR (l : List Nd) : V := if showF l = 0 then (if 600 < (txL l).length then .tup [.str [], .int .i64 1] else .tup [.str (txL l), .int .i64 0]) else .tup [.str [], .int .i64 (showF l)]
theorem show_text (l : List Nd) (hsz : szL l ≤ 1048576) : Fn1 Try.prog 35 [.lst (nodesL l)] (fun r => r = showR l) := by
  have hc := show_check l (by omega)
  have ho := show_of 1048576 l hsz (Nat.le_refl _)
  unfold showR
  by_cases h0 : showF l = 0
  · rw [if_pos h0]
    rw [h0] at hc
    refine fn1E (T := Try.tt) Try.func35 rfl tt_all follows_all ?_ ?_ fun C hC hE => ?_
    · kernel_rfl
    · exact Nat.le_of_ble_eq_true (by kernel_rfl)
    conv => whnf
    repeat' (first | (refine brd_t (by first | assumption | omega) ?_; conv => whnf) | (refine brd_f (by first | assumption | omega) ?_; conv => whnf) | (refine ask (by first | assumption | omega) ?_; conv => whnf) | (refine fit64 (by omega) ?_; conv => whnf) | (refine fit (by simp only [kmin, kmax]; omega) ?_; conv => whnf) | (refine br_t (by assumption) ?_; conv => whnf) | (refine br_f (by assumption) ?_; conv => whnf) | (refine get_of (by assumption) ?_; conv => whnf) | (refine get_map (by assumption) ?_; conv => whnf) | (refine call_eq (hc) hC hasBody_27 ?_ ?_ ?_; kernel_rfl; kernel_rfl; conv => whnf) | (refine callq_eq (hc) hC hasBody_27 ?_ ?_ ?_; kernel_rfl; kernel_rfl; conv => whnf) | (refine call_eq (ho) hC hasBody_68 ?_ ?_ ?_; kernel_rfl; kernel_rfl; conv => whnf) | (refine callq_eq (ho) hC hasBody_68 ?_ ?_ ?_; kernel_rfl; kernel_rfl; conv => whnf) | (refine brd (fun h => ?_) (fun h => ?_) <;> conv => whnf) | (refine br (fun h => ?_) (fun h => ?_) <;> conv => whnf) | (refine ret_now hE ?_; conv => whnf) | (intro hlen; conv => whnf))
    · exact ⟨rfl, by rw [if_pos (by omega)]⟩
    · exact ⟨rfl, by rw [if_neg (by omega)]⟩
  · rw [if_neg h0]
    refine fn1E (T := Try.tt) Try.func35 rfl tt_all follows_all ?_ ?_ fun C hC hE => ?_
    · kernel_rfl
    · exact Nat.le_of_ble_eq_true (by kernel_rfl)
    conv => whnf
    repeat' (first | (refine brd_t (by first | assumption | omega) ?_; conv => whnf) | (refine brd_f (by first | assumption | omega) ?_; conv => whnf) | (refine ask (by first | assumption | omega) ?_; conv => whnf) | (refine fit64 (by omega) ?_; conv => whnf) | (refine fit (by simp only [kmin, kmax]; omega) ?_; conv => whnf) | (refine br_t (by assumption) ?_; conv => whnf) | (refine br_f (by assumption) ?_; conv => whnf) | (refine get_of (by assumption) ?_; conv => whnf) | (refine get_map (by assumption) ?_; conv => whnf) | (refine call_eq (hc) hC hasBody_27 ?_ ?_ ?_; kernel_rfl; kernel_rfl; conv => whnf) | (refine callq_eq (hc) hC hasBody_27 ?_ ?_ ?_; kernel_rfl; kernel_rfl; conv => whnf) | (refine brd_t h0 ?_; conv => whnf) | (refine brd_f h0 ?_; conv => whnf) | (refine brd (fun h => ?_) (fun h => ?_) <;> conv => whnf) | (refine br (fun h => ?_) (fun h => ?_) <;> conv => whnf) | (refine ret_now hE ?_; conv => whnf) | (intro hlen; conv => whnf))
    exact ⟨rfl, rfl⟩
theorem doc_show_text (l : List Nd) (hsz : szL l ≤ 1048576) : Fn1 Try.prog 36 [.lst (nodesL l)] (fun r => r = showR l) := by
  have hc := show_faultD l (by omega)
  have ho := doc_of 1048576 l hsz (Nat.le_refl _)
  unfold showR
  by_cases h0 : showF l = 0
  · rw [if_pos h0]
    rw [h0] at hc
    refine fn1E (T := Try.tt) Try.func36 rfl tt_all follows_all ?_ ?_ fun C hC hE => ?_
    · kernel_rfl
    · exact Nat.le_of_ble_eq_true (by kernel_rfl)
    conv => whnf
    repeat' (first | (refine brd_t (by first | assumption | omega) ?_; conv => whnf) | (refine brd_f (by first | assumption | omega) ?_; conv => whnf) | (refine ask (by first | assumption | omega) ?_; conv => whnf) | (refine fit64 (by omega) ?_; conv => whnf) | (refine fit (by simp only [kmin, kmax]; omega) ?_; conv => whnf) | (refine br_t (by assumption) ?_; conv => whnf) | (refine br_f (by assumption) ?_; conv => whnf) | (refine get_of (by assumption) ?_; conv => whnf) | (refine get_map (by assumption) ?_; conv => whnf) | (refine call_eq (hc) hC hasBody_28 ?_ ?_ ?_; kernel_rfl; kernel_rfl; conv => whnf) | (refine callq_eq (hc) hC hasBody_28 ?_ ?_ ?_; kernel_rfl; kernel_rfl; conv => whnf) | (refine call_eq (ho) hC hasBody_69 ?_ ?_ ?_; kernel_rfl; kernel_rfl; conv => whnf) | (refine callq_eq (ho) hC hasBody_69 ?_ ?_ ?_; kernel_rfl; kernel_rfl; conv => whnf) | (refine brd (fun h => ?_) (fun h => ?_) <;> conv => whnf) | (refine br (fun h => ?_) (fun h => ?_) <;> conv => whnf) | (refine ret_now hE ?_; conv => whnf) | (intro hlen; conv => whnf))
    · exact ⟨rfl, by rw [if_pos (by omega)]⟩
    · exact ⟨rfl, by rw [if_neg (by omega)]⟩
  · rw [if_neg h0]
    refine fn1E (T := Try.tt) Try.func36 rfl tt_all follows_all ?_ ?_ fun C hC hE => ?_
    · kernel_rfl
    · exact Nat.le_of_ble_eq_true (by kernel_rfl)
    conv => whnf
    repeat' (first | (refine brd_t (by first | assumption | omega) ?_; conv => whnf) | (refine brd_f (by first | assumption | omega) ?_; conv => whnf) | (refine ask (by first | assumption | omega) ?_; conv => whnf) | (refine fit64 (by omega) ?_; conv => whnf) | (refine fit (by simp only [kmin, kmax]; omega) ?_; conv => whnf) | (refine br_t (by assumption) ?_; conv => whnf) | (refine br_f (by assumption) ?_; conv => whnf) | (refine get_of (by assumption) ?_; conv => whnf) | (refine get_map (by assumption) ?_; conv => whnf) | (refine call_eq (hc) hC hasBody_28 ?_ ?_ ?_; kernel_rfl; kernel_rfl; conv => whnf) | (refine callq_eq (hc) hC hasBody_28 ?_ ?_ ?_; kernel_rfl; kernel_rfl; conv => whnf) | (refine brd_t h0 ?_; conv => whnf) | (refine brd_f h0 ?_; conv => whnf) | (refine brd (fun h => ?_) (fun h => ?_) <;> conv => whnf) | (refine br (fun h => ?_) (fun h => ?_) <;> conv => whnf) | (refine ret_now hE ?_; conv => whnf) | (intro hlen; conv => whnf))
    exact ⟨rfl, rfl⟩
theorem showTexts_law (l : List Nd) (hsz : szL l ≤ 1048576) : Fn1 Try.prog 13 [.lst (nodesL l)] (fun r => r = .bool true) := by
  have h1 := show_text l hsz
  have h2 := doc_show_text l hsz
  obtain ⟨s, e, hr⟩ : ∃ s e, showR l = .tup [.str s, .int .i64 e] := by unfold showR; (repeat' split) <;> exact ⟨_, _, rfl⟩
  rw [hr] at h1 h2
  refine fn1E (T := Try.tt) Try.func13 rfl tt_all follows_all ?_ ?_ fun C hC hE => ?_
  · kernel_rfl
  · exact Nat.le_of_ble_eq_true (by kernel_rfl)
  conv => whnf
  repeat' (first | (refine brd_t (by first | assumption | omega) ?_; conv => whnf) | (refine brd_f (by first | assumption | omega) ?_; conv => whnf) | (refine ask (by first | assumption | omega) ?_; conv => whnf) | (refine fit64 (by omega) ?_; conv => whnf) | (refine fit (by simp only [kmin, kmax]; omega) ?_; conv => whnf) | (refine br_t (by assumption) ?_; conv => whnf) | (refine br_f (by assumption) ?_; conv => whnf) | (refine get_of (by assumption) ?_; conv => whnf) | (refine get_map (by assumption) ?_; conv => whnf) | (refine brd_t rfl ?_; conv => whnf) | (refine call_eq (h1) hC hasBody_35 ?_ ?_ ?_; kernel_rfl; kernel_rfl; conv => whnf) | (refine callq_eq (h1) hC hasBody_35 ?_ ?_ ?_; kernel_rfl; kernel_rfl; conv => whnf) | (refine call_eq (h2) hC hasBody_36 ?_ ?_ ?_; kernel_rfl; kernel_rfl; conv => whnf) | (refine callq_eq (h2) hC hasBody_36 ?_ ?_ ?_; kernel_rfl; kernel_rfl; conv => whnf) | (refine brd (fun h => ?_) (fun h => ?_) <;> conv => whnf) | (refine br (fun h => ?_) (fun h => ?_) <;> conv => whnf) | (refine ret_now hE ?_; conv => whnf) | (intro hlen; conv => whnf))
  exact ⟨rfl, rfl⟩
end Go.Proofs.Ytcfinfdkmpgaaaa
