/- Data as values; small lemmas for loops and ends. No conditions. -/
import Derived.Test.YtbdogoccjcifnaaDoorTypes
set_option linter.unusedSimpArgs false
set_option linter.unusedVariables false
set_option maxRecDepth 100000
namespace Go.Proofs.YtbdogoccjcifnaaDoor
open Go.RowKit

def ints (l : List Int) : V := .lst (l.map (V.int .i64))
theorem wrap_in (n : Int) (h0 : -9223372036854775808 ≤ n) (h1 : n ≤ 9223372036854775807) : IntKind.i64.wrap n = n := by rw [IntKind.wrap_i64]; omega
theorem wrap_succ (k : Nat) (h : k < 9223372036854775807) : IntKind.i64.wrap ((k : Int) + 1) = ((k + 1 : Nat) : Int) := by
  rw [wrap_in _ (by omega) (by omega)]; omega
theorem maxLen_eq : maxLen = 9223372036854775807 := rfl
theorem nr_ints (l : List Int) : (ints l).nr := trivial
def idxOf {α : Type} (p : α → Bool) (l : List α) : Int := match l.findIdx? p with | some i => i | none => -1
theorem idxOf_hit {α : Type} {p : α → Bool} {l : List α} {k : Nat} {x : α} (hx : l[k]? = some x) (hp : p x = true) (hj : ∀ j < k, ∀ x, l[j]? = some x → p x = false) : idxOf p l = k := by
  have : l.findIdx? p = some k := by
    rw [List.findIdx?_eq_some_iff_getElem]
    obtain ⟨hlt, rfl⟩ := List.getElem?_eq_some_iff.1 hx
    exact ⟨hlt, hp, fun j hjk => by simp [hj j hjk _ (List.getElem?_eq_getElem (by omega))]⟩
  unfold idxOf
  rw [this]
theorem idxOf_miss {α : Type} {p : α → Bool} {l : List α} (h : ∀ x ∈ l, p x = false) : idxOf p l = -1 := by
  have : l.findIdx? p = none := by rw [List.findIdx?_eq_none_iff]; exact h
  unfold idxOf
  rw [this]
theorem idxOf_any {α : Type} (p : α → Bool) (l : List α) : decide (0 ≤ idxOf p l) = l.any p := by
  unfold idxOf
  cases h : l.findIdx? p with
  | none =>
    have := List.findIdx?_eq_none_iff.1 h
    have h2 : l.any p = false := by rw [List.any_eq_false]; intro x hx; simp [this x hx]
    rw [h2]; rfl
  | some i =>
    obtain ⟨hlt, hp, _⟩ := List.findIdx?_eq_some_iff_getElem.1 h
    have h2 : l.any p = true := by rw [List.any_eq_true]; exact ⟨_, List.getElem_mem hlt, hp⟩
    rw [h2]
    exact decide_eq_true (by show (0 : Int) ≤ (i : Int); omega)
/-! ### Freezing, step by step -/
section
variable (id : Nat) (els : List V)
theorem frz_lst (l : List V) : (V.lst l).frz id els = .lst l := by simp [V.frz]
theorem frz_int (k : IntKind) (n : Int) : (V.int k n).frz id els = .int k n := by simp [V.frz]
theorem frz_bool (b : Bool) : (V.bool b).frz id els = .bool b := by simp [V.frz]
theorem frz_str (s : List UInt8) : (V.str s).frz id els = .str s := by simp [V.frz]
theorem frz_nils : V.nils.frz id els = .nils := by simp [V.frz]
theorem frz_nilp : V.nilp.frz id els = .nilp := by simp [V.frz]
theorem frz_rp (l : List V) : (V.rp l).frz id els = .rp l := by simp [V.frz]
theorem frz_agg (l : List V) : (V.agg l).frz id els = .agg (frzL id els l) := by simp [V.frz]
theorem frz_tup (l : List V) : (V.tup l).frz id els = .tup (frzL id els l) := by simp [V.frz]
theorem frz_fn (f : FuncId) (l : List V) : (V.fn f l).frz id els = .fn f (frzL id els l) := by simp [V.frz]
theorem frz_ptr (i a b : Nat) : (V.ptr i a b).frz id els = if i = id then (match els[a]? with | some x => .rp (x.cells.drop b) | none => .any) else .ptr i a b := by rw [V.frz]; by_cases h : i = id <;> simp only [h, if_true, if_false] <;> cases els[a]? <;> rfl
theorem frz_sl (i off n : Nat) : (V.sl i off n).frz id els = if i = id then (if off + n ≤ els.length then .lst ((els.drop off).take n) else .any) else .sl i off n := by simp [V.frz]
theorem frzL_nil : frzL id els [] = [] := by simp [frzL]
theorem frzL_cons (x : V) (l : List V) : frzL id els (x :: l) = x.frz id els :: frzL id els l := by simp [frzL]
theorem frzH_nil : frzH id els [] = [] := by simp [frzH]
theorem frzH_none (r : List (Option Ob)) : frzH id els (none :: r) = none :: frzH id els r := by simp [frzH]
theorem frzH_some (o : Ob) (r : List (Option Ob)) : frzH id els (some o :: r) = some (o.frz id els) :: frzH id els r := by simp [frzH]
theorem frzO_row (z : Nat) (l : List V) : (Ob.row z l).frz id els = .row z (frzL id els l) := by simp [Ob.frz]
end
theorem up_frzK {C : Ctx} {K : ES → Prop} (id t : Nat) (ks : List Nat) {z m n : Nat} {els : List V} {u : List (Nat × V)} {h : List (Option Ob)} (hr : h[id]? = some (some (.row z els))) (hnr : nrL els) (hs : lookU u t = .sl id 0 m) (hm : m = els.length)
    (hf : frzU id els (keepU ks u) = keepU ks u) (hk : UpE C K ⟨n, (t, .lst els) :: keepU ks u, (frzH id els h).set id none⟩) : UpE C K ⟨n, u, h⟩ := by
  refine up_to' (t :: ks) (up_freeze id hr hnr ?_)
  have e : frzU id els (keepU (t :: ks) u) = (t, .lst els) :: keepU ks u := by
    rw [← hf]
    simp only [keepU, frzU, List.map_cons, hs, frz_sl, if_true]
    rw [if_pos (by omega), List.drop_zero, List.take_of_length_le (by omega)]
  rw [e]
  exact hk
end Go.Proofs.YtbdogoccjcifnaaDoor
