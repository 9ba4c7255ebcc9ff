/- (*strings.Builder).Len as a contract over the call's own objects. No conditions. -/
import Derived.Test.YtcfinfdkmpgaaaaBldd
set_option linter.unusedSimpArgs false
set_option linter.unusedVariables false
set_option maxRecDepth 100000
namespace Go.Proofs.Ytcfinfdkmpgaaaa
open Go.RowKit

set_option maxHeartbeats 2000000 in
set_option maxRecDepth 100000 in
theorem len_run (b : Nat) (p v : Value) (s : List UInt8) (w : World) (hb : w.heap[b]? = some (.cells #[p, v] 92 (0, 0))) (hv : BufIs 5 w v s) :
    Calls Try.prog 64 #[.pointer (some ⟨b, 0, none⟩)] w fun e w' => e = .returned (.int .i64 s.length) ∧ w' = w := by
  obtain ⟨a, cap, rfl⟩ := buf_cells hv
  have c1 : w.cell? ⟨b, 1, none⟩ = some (.slice a s.length cap) := by rw [Lib.cell_of_heap hb]; rfl
  go_enter Try.func64, Try.ntmps64
  go_wp2
  go_ret
  exact ⟨rfl, rfl⟩
theorem h_len (s : List UInt8) : HFn Try.prog 64 [.ptr 0 0 0] [.bld 92 (some (1, s.length)), .buf 5 s] [0]
    (fun r o => r = .int .i64 s.length ∧ o = [.bld 92 (some (1, s.length)), .buf 5 s]) := by
  intro w I bl vs hl hvs hH
  match vs, hl with
  | [v0], _ =>
    obtain ⟨b, base, z, n, e, hbl, hsh, rfl⟩ := (hvs 0 v0 _ rfl rfl).inv_ptr
    obtain ⟨b', p, v, h0, hb, hp, hone, hr⟩ := hH.obj 0 _ rfl
    rw [h0] at hbl
    simp only [Option.some.injEq, BI.mk.injEq] at hbl
    obtain ⟨rfl, rfl, rfl⟩ := hbl
    obtain ⟨hv, _⟩ := buf_of hr (hH.obj 1 _ rfl)
    refine (len_run b' p v s w hb hv).mono ?_
    rintro e w' ⟨rfl, rfl⟩
    exact ⟨.int .i64 s.length, _, _, I, bl, rfl, ⟨rfl, rfl⟩, rfl, .pure _ _ (.int _ _), hH, fun j _ => rfl⟩
theorem call_len {C : Ctx} {fop : Operand} {args : List Operand} {K : V → ES → Prop} {σ : ES} (hC : C.P = Try.prog) (p q : Nat) (hpq : p ≠ q) {s : List UInt8} (he : evalC σ fop args = some (64, [.ptr p 0 0]))
    (hp : σ.heap[p]? = some (some (.bld 92 (some (q, s.length))))) (hq : σ.heap[q]? = some (some (.buf 5 s)))
    (hK : killUE q σ.u fun u => fH (((killH q σ.heap).set p (some (.bld 92 (some (q, s.length))))).set q (some (.buf 5 s))) fun h => K (.int .i64 s.length) ⟨σ.n, u, h⟩) : CallN C fop args 64 [.ptr p 0 0] K σ :=
  call_bld hC (by kernel_rfl) p q hpq (h_len s) he (by simp [rnL]) (by simp [rnV]) (.inr ⟨_, rfl⟩) hp hq hK
end Go.Proofs.Ytcfinfdkmpgaaaa
