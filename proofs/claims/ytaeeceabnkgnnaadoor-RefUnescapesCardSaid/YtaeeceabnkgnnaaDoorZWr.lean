/- A builder's WriteRune: the callers' rule. No conditions. -/
import Derived.Test.YtaeeceabnkgnnaaDoorZBld
import Derived.Test.YtaeeceabnkgnnaaDoorZAny
/-! strings.Builder's WriteRune, walked. No conditions. -/
set_option linter.unusedSimpArgs false
set_option linter.unusedVariables false
set_option maxRecDepth 100000
namespace Go.Proofs.YtaeeceabnkgnnaaDoor
open Go.RowKit

theorem byv_ub {m : Int} (h0 : 0 ≤ m) (h : m < 256) : byv (ub m) = .int .u8 m := by unfold byv; rw [ub_val h0 h]
theorem hasBody_84' : hasBody Tryd.prog 84 = true := by kernel_rfl

set_option maxHeartbeats 4000000 in
set_option maxRecDepth 100000 in
theorem ar2 (v : Value) (s : List UInt8) (r : Int) (h0 : 128 ≤ r) (h1 : r ≤ 2047) (w : World) (hv : BufIs 5 w v s) (hlen : s.length + 4 ≤ 140737488355328) :
    Calls Tryd.prog 84 #[v, .int .i32 r] w fun e w' => ∃ v', e = .returned v' ∧ BufIs 5 w' v' (s ++ [ub (192 + r / 64), ub (128 + r % 64)]) ∧ BFrame w w' v v' := by
  obtain ⟨i0, hi, hz0, hz1, hz2⟩ := u8_info
  go_enter Tryd.func84, Tryd.ntmps84
  go_wp2_with (at_builtin; refine wpList_buf _ rfl _ _ _ _ rfl Tryd.underlying45 hi hz1 hz0 rfl hz2 (by kernel_rfl) _ s [ub (192 + r / 64), ub (128 + r % 64)] rfl (hv.alloc _) (fun w' => rfl) ?cf (by simp only [List.length_cons, List.length_nil]; omega) ?_)
  case cf =>
    intro w' hw
    refine run_firstCells_some (P := Tryd.prog) w' 1 2 ⟨w.heap.size, 0, none⟩ 2 2 [byv (ub (192 + r / 64)), byv (ub (128 + r % 64))] rfl (fun j u hj => ?_)
    match j, hj with
    | 0, hj =>
      simp at hj
      subst hj
      rw [byv_ub (by omega) (by omega), Addr.add_lit, cell_of_heap hw, Lib.cell_of_heap (heap_alloc_new w _)]
      rfl
    | 1, hj =>
      simp at hj
      subst hj
      rw [byv_ub (by omega) (by omega), Addr.add_lit, cell_of_heap hw, Lib.cell_of_heap (heap_alloc_new w _)]
      rfl
    | n + 2, hj => simp at hj
  intro v2 w2 h2 hf2
  go_wp2
  go_ret
  exact ⟨_, rfl, h2, hf2.alloc⟩

set_option maxHeartbeats 4000000 in
set_option maxRecDepth 100000 in
theorem ar3a (v : Value) (s : List UInt8) (r : Int) (h0 : 2048 ≤ r) (h1 : r < 55296) (w : World) (hv : BufIs 5 w v s) (hlen : s.length + 4 ≤ 140737488355328) :
    Calls Tryd.prog 84 #[v, .int .i32 r] w fun e w' => ∃ v', e = .returned v' ∧ BufIs 5 w' v' (s ++ [ub (224 + r / 4096), ub (128 + r / 64 % 64), ub (128 + r % 64)]) ∧ BFrame w w' v v' := by
  obtain ⟨i0, hi, hz0, hz1, hz2⟩ := u8_info
  go_enter Tryd.func84, Tryd.ntmps84
  go_wp2_with (at_builtin; refine wpList_buf _ rfl _ _ _ _ rfl Tryd.underlying45 hi hz1 hz0 rfl hz2 (by kernel_rfl) _ s [ub (224 + r / 4096), ub (128 + r / 64 % 64), ub (128 + r % 64)] rfl (hv.alloc _) (fun w' => rfl) ?cf (by simp only [List.length_cons, List.length_nil]; omega) ?_)
  case cf =>
    intro w' hw
    refine run_firstCells_some (P := Tryd.prog) w' 1 3 ⟨w.heap.size, 0, none⟩ 3 3 [byv (ub (224 + r / 4096)), byv (ub (128 + r / 64 % 64)), byv (ub (128 + r % 64))] rfl (fun j u hj => ?_)
    match j, hj with
    | 0, hj =>
      simp at hj
      subst hj
      rw [byv_ub (by omega) (by omega), Addr.add_lit, cell_of_heap hw, Lib.cell_of_heap (heap_alloc_new w _)]
      rfl
    | 1, hj =>
      simp at hj
      subst hj
      rw [byv_ub (by omega) (by omega), Addr.add_lit, cell_of_heap hw, Lib.cell_of_heap (heap_alloc_new w _)]
      rfl
    | 2, hj =>
      simp at hj
      subst hj
      rw [byv_ub (by omega) (by omega), Addr.add_lit, cell_of_heap hw, Lib.cell_of_heap (heap_alloc_new w _)]
      rfl
    | n + 3, hj => simp at hj
  intro v2 w2 h2 hf2
  go_wp2
  go_ret
  exact ⟨_, rfl, h2, hf2.alloc⟩

set_option maxHeartbeats 4000000 in
set_option maxRecDepth 100000 in
theorem ar3b (v : Value) (s : List UInt8) (r : Int) (h0 : 57343 < r) (h1 : r ≤ 65535) (w : World) (hv : BufIs 5 w v s) (hlen : s.length + 4 ≤ 140737488355328) :
    Calls Tryd.prog 84 #[v, .int .i32 r] w fun e w' => ∃ v', e = .returned v' ∧ BufIs 5 w' v' (s ++ [ub (224 + r / 4096), ub (128 + r / 64 % 64), ub (128 + r % 64)]) ∧ BFrame w w' v v' := by
  obtain ⟨i0, hi, hz0, hz1, hz2⟩ := u8_info
  go_enter Tryd.func84, Tryd.ntmps84
  go_wp2_with (at_builtin; refine wpList_buf _ rfl _ _ _ _ rfl Tryd.underlying45 hi hz1 hz0 rfl hz2 (by kernel_rfl) _ s [ub (224 + r / 4096), ub (128 + r / 64 % 64), ub (128 + r % 64)] rfl (hv.alloc _) (fun w' => rfl) ?cf (by simp only [List.length_cons, List.length_nil]; omega) ?_)
  case cf =>
    intro w' hw
    refine run_firstCells_some (P := Tryd.prog) w' 1 3 ⟨w.heap.size, 0, none⟩ 3 3 [byv (ub (224 + r / 4096)), byv (ub (128 + r / 64 % 64)), byv (ub (128 + r % 64))] rfl (fun j u hj => ?_)
    match j, hj with
    | 0, hj =>
      simp at hj
      subst hj
      rw [byv_ub (by omega) (by omega), Addr.add_lit, cell_of_heap hw, Lib.cell_of_heap (heap_alloc_new w _)]
      rfl
    | 1, hj =>
      simp at hj
      subst hj
      rw [byv_ub (by omega) (by omega), Addr.add_lit, cell_of_heap hw, Lib.cell_of_heap (heap_alloc_new w _)]
      rfl
    | 2, hj =>
      simp at hj
      subst hj
      rw [byv_ub (by omega) (by omega), Addr.add_lit, cell_of_heap hw, Lib.cell_of_heap (heap_alloc_new w _)]
      rfl
    | n + 3, hj => simp at hj
  intro v2 w2 h2 hf2
  go_wp2
  go_ret
  exact ⟨_, rfl, h2, hf2.alloc⟩

set_option maxHeartbeats 4000000 in
set_option maxRecDepth 100000 in
theorem ar4 (v : Value) (s : List UInt8) (r : Int) (h0 : 65536 ≤ r) (h1 : r ≤ 1114111) (w : World) (hv : BufIs 5 w v s) (hlen : s.length + 4 ≤ 140737488355328) :
    Calls Tryd.prog 84 #[v, .int .i32 r] w fun e w' => ∃ v', e = .returned v' ∧ BufIs 5 w' v' (s ++ [ub (240 + r / 262144), ub (128 + r / 4096 % 64), ub (128 + r / 64 % 64), ub (128 + r % 64)]) ∧ BFrame w w' v v' := by
  obtain ⟨i0, hi, hz0, hz1, hz2⟩ := u8_info
  go_enter Tryd.func84, Tryd.ntmps84
  go_wp2_with (at_builtin; refine wpList_buf _ rfl _ _ _ _ rfl Tryd.underlying45 hi hz1 hz0 rfl hz2 (by kernel_rfl) _ s [ub (240 + r / 262144), ub (128 + r / 4096 % 64), ub (128 + r / 64 % 64), ub (128 + r % 64)] rfl (hv.alloc _) (fun w' => rfl) ?cf (by simp only [List.length_cons, List.length_nil]; omega) ?_)
  case cf =>
    intro w' hw
    refine run_firstCells_some (P := Tryd.prog) w' 1 4 ⟨w.heap.size, 0, none⟩ 4 4 [byv (ub (240 + r / 262144)), byv (ub (128 + r / 4096 % 64)), byv (ub (128 + r / 64 % 64)), byv (ub (128 + r % 64))] rfl (fun j u hj => ?_)
    match j, hj with
    | 0, hj =>
      simp at hj
      subst hj
      rw [byv_ub (by omega) (by omega), Addr.add_lit, cell_of_heap hw, Lib.cell_of_heap (heap_alloc_new w _)]
      rfl
    | 1, hj =>
      simp at hj
      subst hj
      rw [byv_ub (by omega) (by omega), Addr.add_lit, cell_of_heap hw, Lib.cell_of_heap (heap_alloc_new w _)]
      rfl
    | 2, hj =>
      simp at hj
      subst hj
      rw [byv_ub (by omega) (by omega), Addr.add_lit, cell_of_heap hw, Lib.cell_of_heap (heap_alloc_new w _)]
      rfl
    | 3, hj =>
      simp at hj
      subst hj
      rw [byv_ub (by omega) (by omega), Addr.add_lit, cell_of_heap hw, Lib.cell_of_heap (heap_alloc_new w _)]
      rfl
    | n + 4, hj => simp at hj
  intro v2 w2 h2 hf2
  go_wp2
  go_ret
  exact ⟨_, rfl, h2, hf2.alloc⟩

theorem ar_high (v : Value) (s : List UInt8) (r : Int) (h0 : 128 ≤ r) (hl : letB r = true) (w : World) (hv : BufIs 5 w v s) (hlen : s.length + 4 ≤ 140737488355328) :
    Calls Tryd.prog 84 #[v, .int .i32 r] w fun e w' => ∃ v', e = .returned v' ∧ BufIs 5 w' v' (s ++ runeB r) ∧ BFrame w w' v v' := by
  have hr : 0 ≤ r ∧ r ≤ 1114111 ∧ (r < 55296 ∨ 57343 < r) := by unfold letB at hl; exact of_decide_eq_true hl
  unfold runeB
  rw [if_neg (by omega)]
  by_cases h1 : r < 2048
  · rw [if_pos h1]; exact ar2 v s r h0 (by omega) w hv hlen
  · rw [if_neg h1]
    by_cases h2 : r < 65536
    · rw [if_pos h2]
      by_cases h3 : r < 55296
      · exact ar3a v s r (by omega) h3 w hv hlen
      · exact ar3b v s r (by omega) (by omega) w hv hlen
    · rw [if_neg h2]; exact ar4 v s r (by omega) (by omega) w hv hlen
set_option maxHeartbeats 4000000 in
set_option maxRecDepth 100000 in
theorem ar_run (v : Value) (s : List UInt8) (r : Int) (hl : letB r = true) (w : World) (hv : BufIs 5 w v s) (hlen : s.length + 4 ≤ 140737488355328) :
    Calls Tryd.prog 63 #[v, .int .i32 r] w fun e w' => ∃ v', e = .returned v' ∧ BufIs 5 w' v' (s ++ runeB r) ∧ BFrame w w' v v' := by
  have hr : 0 ≤ r ∧ r ≤ 1114111 ∧ (r < 55296 ∨ 57343 < r) := by unfold letB at hl; exact of_decide_eq_true hl
  obtain ⟨i0, hi, hz0, hz1, hz2⟩ := u8_info
  obtain ⟨g0, g1, _⟩ := hr
  by_cases h0 : r < 128
  · have hb : runeB r = [ub r] := by unfold runeB; rw [if_pos h0]
    rw [hb]
    go_enter Tryd.func63, Tryd.ntmps63
    go_wp2_with (at_builtin; refine wpList_buf _ rfl _ _ _ _ rfl Tryd.underlying45 hi hz1 hz0 rfl hz2 (by kernel_rfl) _ s [ub r] rfl (hv.alloc _) (fun w' => rfl) ?cf (by simp only [List.length_cons, List.length_nil]; omega) ?_)
    case cf =>
      intro w' hw
      refine run_firstCells_some (P := Tryd.prog) w' 1 1 ⟨w.heap.size, 0, none⟩ 1 1 [byv (ub r)] rfl (fun j u hj => ?_)
      match j, hj with
      | 0, hj =>
        simp at hj
        subst hj
        rw [byv_ub (by omega) (by omega), Addr.add_lit, cell_of_heap hw, Lib.cell_of_heap (heap_alloc_new w _)]
        rfl
      | n + 1, hj => simp at hj
    intro v2 w2 h2 hf2
    go_wp2
    go_ret
    exact ⟨_, rfl, h2, hf2.alloc⟩
  · have h128 : 128 ≤ r := by omega
    clear h0
    go_enter Tryd.func63, Tryd.ntmps63
    go_wp2_with (go_at_call 84; refine (ar_high v s r (by omega) hl w hv hlen).mono ?_)
    rintro e w1 ⟨v1, rfl, h1, hf1⟩
    go_wp2
    go_ret
    exact ⟨_, rfl, h1, hf1⟩
theorem rbLen (r : Int) : (runeB r).length ≤ 4 := by
  unfold runeB
  (repeat' split) <;> simp
set_option maxHeartbeats 4000000 in
set_option maxRecDepth 100000 in
theorem wr_run (b : Nat) (p v : Value) (s : List UInt8) (r : Int) (hl : letB r = true) (w : World) (hb : w.heap[b]? = some (.cells #[p, v] 47 (0, 0))) (hp : p = .pointer none ∨ p = .pointer (some ⟨b, 0, none⟩)) (hv : BufIs 5 w v s) (hlen : s.length + 4 ≤ 140737488355328) :
    Calls Tryd.prog 35 #[.pointer (some ⟨b, 0, none⟩), .int .i32 r] w fun e w' => (∃ k : Int, e = .returned (.tuple #[.int .i64 k, .nilIface])) ∧ ∃ v', w'.heap[b]? = some (.cells #[.pointer (some ⟨b, 0, none⟩), v'] 47 (0, 0)) ∧ BufIs 5 w' v' (s ++ runeB r) ∧ WFrame w w' b v v' := by
  have hvb := buf_block hv hb (by decide)
  go_enter Tryd.func35, Tryd.ntmps35
  go_wp2_with (go_at_call 62; refine (cc_run b p v w hb hp).mono ?_)
  rintro e w1 ⟨rfl, hb1, hf1⟩
  have hv1 : BufIs 5 w1 v s := hv.other fun g hg => hf1.block g (fun e => hvb (e ▸ hg))
  have c0 : w1.cell? ⟨b, 0, none⟩ = some (.pointer (some ⟨b, 0, none⟩)) := by rw [Lib.cell_of_heap hb1]; rfl
  have c1 : w1.cell? ⟨b, 1, none⟩ = some v := by rw [Lib.cell_of_heap hb1]; rfl
  obtain ⟨a1, n1, hve⟩ := buf_cells hv1
  have hls : s.length ≤ 140737488355328 := by omega
  subst hve
  go_wp2_with (go_at_call 63; refine (ar_run _ s r hl w1 hv1 hlen).mono ?_)
  rintro e w2 ⟨v2, rfl, h2, hf2⟩
  have hb2 : w2.heap[b]? = some (.cells #[.pointer (some ⟨b, 0, none⟩), .slice a1 s.length n1] 47 (0, 0)) := (hf2.block b (block_lt hb1) hvb).trans hb1
  have d0 : w2.cell? ⟨b, 0, none⟩ = some (.pointer (some ⟨b, 0, none⟩)) := by rw [Lib.cell_of_heap hb2]; rfl
  have d1 : w2.cell? ⟨b, 1, none⟩ = some (.slice a1 s.length n1) := by rw [Lib.cell_of_heap hb2]; rfl
  have f1 : w2.frozen? ⟨b, 1, none⟩ = false := Lib.frozen_of_heap hb2 1
  have hs := setCell_frame hb2 1 v2
  have h2b := buf_block h2 hb2 (by decide)
  have h3 := h2.other (w' := w2.setCell ⟨b, 1, none⟩ v2) fun g hg => hs.1.block g (fun e => h2b (e ▸ hg))
  have hrl := rbLen r
  obtain ⟨a2, n2, rfl⟩ : ∃ a n, v2 = .slice a (s ++ runeB r).length n := by obtain ⟨a, n, e⟩ := buf_cells h2; exact ⟨_, _, e⟩
  have e1 : (w2.setCell ⟨b, 1, none⟩ (.slice a2 (s ++ runeB r).length n2)).cell? ⟨b, 1, none⟩ = some (.slice a2 (s ++ runeB r).length n2) := by rw [Lib.cell_of_heap hs.2]; rfl
  have hll : (s ++ runeB r).length ≤ 140737488355328 := by rw [List.length_append]; omega
  generalize (s ++ runeB r).length = L2 at *
  go_wp2
  go_ret2
  exact ⟨⟨_, rfl⟩, _, hs.2, h3, WFrame.mk3 hf1 hf2 hs.1⟩
end Go.Proofs.YtaeeceabnkgnnaaDoor

/-! A builder's WriteRune: the callers' rule. No conditions. -/
namespace Go.Proofs.YtaeeceabnkgnnaaDoor
open Go.RowKit

theorem h_wr (s : List UInt8) (r : Int) (hl : letB r = true) (hlen : s.length + 4 ≤ 140737488355328) : HFn Tryd.prog 35 [.ptr 0 0 0, .int .i32 r] [.bld 47 (some (1, s.length)), .buf 5 s] [0]
    (fun r' o => r' = .any ∧ o = [.bld 47 (some (1, (s ++ runeB r).length)), .buf 5 (s ++ runeB r)]) := by
  intro w I bl vs hlv hvs hH
  match vs, hlv with
  | [v0, v1], _ =>
    obtain ⟨b, base, z, n, e, hbl, hsh, rfl⟩ := (hvs 0 v0 _ rfl rfl).inv_ptr
    obtain rfl := (hvs 1 v1 _ rfl rfl).inv_int
    obtain ⟨b', p, v, h0, hb, hp, hone, hr⟩ := hH.obj 0 _ rfl
    rw [h0] at hbl
    simp only [Option.some.injEq, BI.mk.injEq] at hbl
    obtain ⟨rfl, rfl, rfl⟩ := hbl
    obtain ⟨hv, g0, h1, hg0, hnil⟩ := buf_of hr (hH.obj 1 _ rfl)
    have hg : ∀ k, v.ownBlock = some k → g0 = some k := by
      intro k hk
      by_cases hs : s = []
      · rw [own_nil (hnil hs)] at hk; cases hk
      · rw [hg0 hs]; exact hk
    refine (wr_run b' p v s r hl w hb hp hv hlen).mono ?_
    rintro e w' ⟨⟨k, rfl⟩, v', hb', hv', hf⟩
    obtain ⟨r1, r2, r3⟩ := buf_to (I := I) (bl := upd bl 1 ⟨v'.ownBlock, 0, 1⟩) hv' (upd_same _ _ _)
    refine ⟨_, .any, _, I, upd bl 1 ⟨v'.ownBlock, 0, 1⟩, rfl, ⟨rfl, rfl⟩, rfl, .pure _ _ (.any _), heap2 hH h0 h1 hf.os hf.tape hf.output hf.size (fun k hk h2 h3 => hf.block k hk h2 (fun e => h3 (hg k e))) hf.shape (fun g hg' => (hf.own g hg').imp (hg g) id) ⟨b', _, v', by rw [upd_other (by decide)]; exact h0, hb', .inr rfl, r3, ?_⟩ r2, fun j hj => ?_⟩
    · exact r1
    · simp at hj
      subst hj
      exact upd_other (by decide)

section
variable {C : Ctx} {fop : Operand} {args : List Operand} {xs : List V} {K : V → ES → Prop} {σ : ES}
theorem call_wr (hC : C.P = Tryd.prog) (p q : Nat) (hpq : p ≠ q) {s : List UInt8} (r : Int) (hl : letB r = true) {x : V} (hlen : s.length + 4 ≤ 140737488355328) (he : evalC σ fop args = some (35, [.ptr p 0 0, x])) (hx : x = .int .i32 r)
    (hp : σ.heap[p]? = some (some (.bld 47 (some (q, s.length))))) (hq : σ.heap[q]? = some (some (.buf 5 s)))
    (hK : killUE q σ.u fun u => fH (((killH q σ.heap).set p (some (.bld 47 (some (q, (s ++ runeB r).length))))).set q (some (.buf 5 (s ++ runeB r)))) fun h => K .any ⟨σ.n, u, h⟩) : CallN C fop args 35 [.ptr p 0 0, x] K σ := by
  subst hx
  exact call_bld hC (by kernel_rfl) p q hpq (h_wr s r hl hlen) he (by simp [rnL, rnV]) (by simp [rnV]) (.inr ⟨_, rfl⟩) hp hq hK
end
end Go.Proofs.YtaeeceabnkgnnaaDoor
