/- emit.Attrs, emit.raw and the document's AttrsFault, walked. No conditions. -/
import Derived.Test.YtcfinfdkmpgaaaaNameMay
import Derived.Test.YtcfinfdkmpgaaaaData
set_option linter.unusedSimpArgs false
set_option linter.unusedVariables false
set_option maxRecDepth 100000
namespace Go.Proofs.Ytcfinfdkmpgaaaa
open Go.RowKit

def dupAt (l : List Atr) (k : Nat) : Bool := match l[k]? with | some a => (l.take k).any fun b => decide (b.name = a.name) | none => false
def attrsF (l : List Atr) : Int := if (l.any fun a => !nameOk a.name) = true then 5 else if 4 < l.length then 1 else if ((List.range l.length).any (dupAt l)) = true then 8 else 0
theorem attrsF_name {l : List Atr} (h : (l.any fun a => !nameOk a.name) = true) : attrsF l = 5 := if_pos h
theorem attrsF_size {l : List Atr} (h : (l.any fun a => !nameOk a.name) = false) (h4 : 4 < l.length) : attrsF l = 1 := by unfold attrsF; rw [if_neg (by simp [h]), if_pos h4]
theorem attrsF_dup {l : List Atr} {k : Nat} (h : (l.any fun a => !nameOk a.name) = false) (h4 : ¬ 4 < l.length) (hk : k < l.length) (hd : dupAt l k = true) : attrsF l = 8 := by
  unfold attrsF
  rw [if_neg (by simp [h]), if_neg h4, if_pos (List.any_eq_true.2 ⟨k, by simpa using hk, hd⟩)]
theorem attrsF_ok {l : List Atr} (h : (l.any fun a => !nameOk a.name) = false) (h4 : ¬ 4 < l.length) (hd : ∀ k < l.length, dupAt l k = false) : attrsF l = 0 := by
  unfold attrsF
  rw [if_neg (by simp [h]), if_neg h4, if_neg]
  rw [List.any_eq_true]
  rintro ⟨k, hk, he⟩
  rw [hd k (by simpa using hk)] at he
  cases he
theorem dup_of {l : List Atr} {k : Nat} {a : Atr} {b : Bool} (ha : l[k]? = some a) (hb : ((l.take k).any fun q => decide (q.name = a.name)) = b) : dupAt l k = b := by unfold dupAt; rw [ha]; exact hb

theorem attrs1 (a : Atr) : Fn1 Try.prog 83 [attA a] (fun r => r = .bool (!nameOk a.name)) := by
  refine fn1E (T := Try.tt) Try.func83 rfl tt_all follows_all ?_ ?_ fun C hC hE => ?_
  · kernel_rfl
  · exact Nat.le_of_ble_eq_true (by kernel_rfl)
  conv => whnf
  repeat' (first | (refine brd_t (by first | assumption | omega) ?_; conv => whnf) | (refine brd_f (by first | assumption | omega) ?_; conv => whnf) | (refine ask (by first | assumption | omega) ?_; conv => whnf) | (refine fit64 (by omega) ?_; conv => whnf) | (refine fit (by simp only [kmin, kmax]; omega) ?_; conv => whnf) | (refine br_t (by assumption) ?_; conv => whnf) | (refine br_f (by assumption) ?_; conv => whnf) | (refine get_of (by assumption) ?_; conv => whnf) | (refine get_map (by assumption) ?_; conv => whnf) | (refine call_eq (emit_name _) hC hasBody_40 ?_ ?_ ?_; kernel_rfl; kernel_rfl; conv => whnf) | (refine callq_eq (emit_name _) hC hasBody_40 ?_ ?_ ?_; kernel_rfl; kernel_rfl; conv => whnf) | (refine brd (fun h => ?_) (fun h => ?_) <;> conv => whnf) | (refine br (fun h => ?_) (fun h => ?_) <;> conv => whnf) | (refine ret_now hE ?_; conv => whnf) | (intro hlen; conv => whnf))
  all_goals exact ⟨rfl, by congr 1; rw [eq_comm]; simp; assumption⟩
theorem attrs2 (q x : Atr) : Fn1 Try.prog 84 [attA q, .rp [.str x.name, .str x.value]] (fun r => r = .bool (decide (q.name = x.name))) := by
  refine fn1E (T := Try.tt) Try.func84 rfl tt_all follows_all ?_ ?_ fun C hC hE => ?_
  · kernel_rfl
  · exact Nat.le_of_ble_eq_true (by kernel_rfl)
  conv => whnf
  repeat' (first | (refine brd_t (by first | assumption | omega) ?_; conv => whnf) | (refine brd_f (by first | assumption | omega) ?_; conv => whnf) | (refine ask (by first | assumption | omega) ?_; conv => whnf) | (refine fit64 (by omega) ?_; conv => whnf) | (refine fit (by simp only [kmin, kmax]; omega) ?_; conv => whnf) | (refine br_t (by assumption) ?_; conv => whnf) | (refine br_f (by assumption) ?_; conv => whnf) | (refine get_of (by assumption) ?_; conv => whnf) | (refine get_map (by assumption) ?_; conv => whnf) | (refine brd (fun h => ?_) (fun h => ?_) <;> conv => whnf) | (refine br (fun h => ?_) (fun h => ?_) <;> conv => whnf) | (refine ret_now hE ?_; conv => whnf) | (intro hlen; conv => whnf))
  all_goals exact ⟨rfl, by congr 1; rw [eq_comm]; simp; first | assumption | (rw [eq_comm]; assumption) | (intro h; exact absurd h.symm (by assumption))⟩
theorem indexFunc_100 (l : List Atr) (h : FuncId) (caps : List V) (p : Atr → Bool) (hb : hasBody Try.prog h = true) (hc : nrB caps = true) (hp : ∀ a ∈ l, Fn1 Try.prog h (attA a :: caps) (fun r => r = .bool (p a))) :
    Fn1 Try.prog 100 [.lst (l.map attA), .fn h caps] (fun r => r = .int .i64 (idxOf p l)) := by
  refine fn1E (T := Try.tt) Try.func100 rfl tt_all follows_all ?_ ?_ fun C hC hE => ?_
  · kernel_rfl
  · exact Nat.le_of_ble_eq_true (by kernel_rfl)
  conv => whnf
  intro hl
  conv => whnf
  refine loopE (fun k : Nat => ⟨19, [(0, .lst (l.map attA)), (1, .fn h caps), (7, .int .i64 (l.map attA).length), (8, .int .i64 k)], []⟩) (fun k => k ≤ l.length ∧ ∀ j < k, ∀ x, l[j]? = some x → p x = false) (fun k => l.length - k) 0 hE ?_ ?_ ?_ ?_
  · kernel_rfl
  · exact at_keep [0, 1, 7, 8] rfl
  · exact ⟨Nat.zero_le _, fun j hj => by omega⟩
  intro k hkj
  obtain ⟨hk, hj⟩ := hkj
  have hlm : (l.map attA).length = l.length := by simp
  by_cases hlt : k < l.length
  · obtain ⟨x, hx⟩ : ∃ x, l[k]? = some x := ⟨_, List.getElem?_eq_getElem hlt⟩
    have hpx := hp x (List.mem_of_getElem? hx)
    conv => whnf
    repeat' (first | (refine brd_t (by first | assumption | omega) ?_; conv => whnf) | (refine brd_f (by first | assumption | omega) ?_; conv => whnf) | (refine ask (by first | assumption | omega) ?_; conv => whnf) | (refine fit64 (by omega) ?_; conv => whnf) | (refine fit (by simp only [kmin, kmax]; omega) ?_; conv => whnf) | (refine br_t (by assumption) ?_; conv => whnf) | (refine br_f (by assumption) ?_; conv => whnf) | (refine get_of (by assumption) ?_; conv => whnf) | (refine get_map (by assumption) ?_; conv => whnf) | (refine call_eq hpx hC hb ?_ ?_ ?_; kernel_rfl; exact nrB_tail (by kernel_rfl) hc; conv => whnf) | (refine brd (fun h => ?_) (fun h => ?_) <;> conv => whnf) | (refine br (fun h => ?_) (fun h => ?_) <;> conv => whnf) | (refine ret_now hE ?_; conv => whnf) | (intro hlen; conv => whnf))
    · exact ⟨rfl, by rw [idxOf_hit hx (by assumption) hj]⟩
    · refine next_keep [0, 1, 7, 8] (k + 1) ⟨hlt, ?_⟩ (by omega) rfl
      intro j hjk y hy
      by_cases e : j = k
      · subst e; rw [hx] at hy; cases hy; assumption
      · exact hj j (by omega) y hy
  · conv => whnf
    repeat' (first | (refine brd_t (by first | assumption | omega) ?_; conv => whnf) | (refine brd_f (by first | assumption | omega) ?_; conv => whnf) | (refine ask (by first | assumption | omega) ?_; conv => whnf) | (refine fit64 (by omega) ?_; conv => whnf) | (refine fit (by simp only [kmin, kmax]; omega) ?_; conv => whnf) | (refine br_t (by assumption) ?_; conv => whnf) | (refine br_f (by assumption) ?_; conv => whnf) | (refine get_of (by assumption) ?_; conv => whnf) | (refine get_map (by assumption) ?_; conv => whnf) | (refine brd (fun h => ?_) (fun h => ?_) <;> conv => whnf) | (refine br (fun h => ?_) (fun h => ?_) <;> conv => whnf) | (refine ret_now hE ?_; conv => whnf) | (intro hlen; conv => whnf))
    exact ⟨rfl, by rw [idxOf_miss (fun x hx => by obtain ⟨j, hj'⟩ := List.mem_iff_getElem?.1 hx; exact hj j (by have := (List.getElem?_eq_some_iff.1 hj').1; omega) x hj')]⟩

theorem containsFunc_82 (l : List Atr) (h : FuncId) (caps : List V) (p : Atr → Bool) (hb : hasBody Try.prog h = true) (hc : nrB caps = true) (hp : ∀ a ∈ l, Fn1 Try.prog h (attA a :: caps) (fun r => r = .bool (p a))) :
    Fn1 Try.prog 82 [.lst (l.map attA), .fn h caps] (fun r => r = .bool (l.any p)) := by
  have hi := indexFunc_100 l h caps p hb hc hp
  have ha := idxOf_any p l
  refine fn1E (T := Try.tt) Try.func82 rfl tt_all follows_all ?_ ?_ fun C hC hE => ?_
  · kernel_rfl
  · exact Nat.le_of_ble_eq_true (by kernel_rfl)
  conv => whnf
  repeat' (first | (refine brd_t (by first | assumption | omega) ?_; conv => whnf) | (refine brd_f (by first | assumption | omega) ?_; conv => whnf) | (refine ask (by first | assumption | omega) ?_; conv => whnf) | (refine fit64 (by omega) ?_; conv => whnf) | (refine fit (by simp only [kmin, kmax]; omega) ?_; conv => whnf) | (refine br_t (by assumption) ?_; conv => whnf) | (refine br_f (by assumption) ?_; conv => whnf) | (refine get_of (by assumption) ?_; conv => whnf) | (refine get_map (by assumption) ?_; conv => whnf) | (refine call_eq hi hC hasBody_100 ?_ ?_ ?_; kernel_rfl; exact nrB_fn rfl hc; conv => whnf) | (refine brd (fun h => ?_) (fun h => ?_) <;> conv => whnf) | (refine br (fun h => ?_) (fun h => ?_) <;> conv => whnf) | (refine ret_now hE ?_; conv => whnf) | (intro hlen; conv => whnf))
  all_goals exact ⟨rfl, by rw [← ha]; congr 1; first | exact (decide_eq_true (by assumption)).symm | exact (decide_eq_false (by assumption)).symm⟩

theorem emit_attrs (l : List Atr) : Fn1 Try.prog 50 [.lst (l.map attA)] (fun r => r = .int .i64 (attrsF l)) := by
  have hlm : (l.map attA).length = l.length := by simp
  have h1 := containsFunc_82 l 83 [] (fun a => !nameOk a.name) hasBody_83 rfl (fun q _ => attrs1 q)
  obtain ⟨b1, hb1⟩ : ∃ b, (l.any fun a => !nameOk a.name) = b := ⟨_, rfl⟩
  rw [hb1] at h1
  refine fn1E (T := Try.tt) Try.func50 rfl tt_all follows_all ?_ ?_ fun C hC hE => ?_
  · kernel_rfl
  · exact Nat.le_of_ble_eq_true (by kernel_rfl)
  conv => whnf
  repeat' (first | (refine brd_t (by first | assumption | omega) ?_; conv => whnf) | (refine brd_f (by first | assumption | omega) ?_; conv => whnf) | (refine ask (by first | assumption | omega) ?_; conv => whnf) | (refine fit64 (by omega) ?_; conv => whnf) | (refine fit (by simp only [kmin, kmax]; omega) ?_; conv => whnf) | (refine br_t (by assumption) ?_; conv => whnf) | (refine br_f (by assumption) ?_; conv => whnf) | (refine get_of (by assumption) ?_; conv => whnf) | (refine get_map (by assumption) ?_; conv => whnf) | (refine call_eq (h1) hC hasBody_82 ?_ ?_ ?_; kernel_rfl; kernel_rfl; conv => whnf) | (refine callq_eq (h1) hC hasBody_82 ?_ ?_ ?_; kernel_rfl; kernel_rfl; conv => whnf) | (refine brd (fun h => ?_) (fun h => ?_) <;> conv => whnf) | (refine br (fun h => ?_) (fun h => ?_) <;> conv => whnf) | (refine ret_now hE ?_; conv => whnf) | (intro hlen; conv => whnf))
  · exact ⟨rfl, by rw [attrsF_name (by rw [hb1]; assumption)]⟩
  · exact ⟨rfl, by rw [attrsF_size (by rw [hb1]; assumption) (by omega)]⟩
  have hn : (l.any fun a => !nameOk a.name) = false := by rw [hb1]; assumption
  refine loopE (fun k : Nat => ⟨23, [(0, .lst (l.map attA)), (10, .lst (l.map attA)), (11, .int .i64 (l.map attA).length), (12, .int .i64 k)], []⟩) (fun k => k ≤ l.length ∧ ∀ j < k, dupAt l j = false) (fun k => l.length - k) 0 hE ?_ ?_ ⟨Nat.zero_le _, fun j hj => by omega⟩ ?_
  · kernel_rfl
  · exact at_keep [0, 10, 11, 12] rfl
  intro k hk
  obtain ⟨hk, hj⟩ := hk
  have h4 : ¬ 4 < l.length := by omega
  by_cases hlt : k < l.length
  · obtain ⟨x, hx⟩ : ∃ x, l[k]? = some x := ⟨_, List.getElem?_eq_getElem hlt⟩
    have hcf := containsFunc_82 (l.take k) 84 [.rp [.str x.name, .str x.value]] (fun q => decide (q.name = x.name)) hasBody_84 rfl (fun q _ => attrs2 q x)
    obtain ⟨b, hb⟩ : ∃ b, ((l.take k).any fun q => decide (q.name = x.name)) = b := ⟨_, rfl⟩
    rw [hb] at hcf
    have hd := dup_of hx hb
    conv => whnf
    repeat' (first | (refine brd_t (by first | assumption | omega) ?_; conv => whnf) | (refine brd_f (by first | assumption | omega) ?_; conv => whnf) | (refine ask (by first | assumption | omega) ?_; conv => whnf) | (refine fit64 (by omega) ?_; conv => whnf) | (refine fit (by simp only [kmin, kmax]; omega) ?_; conv => whnf) | (refine br_t (by assumption) ?_; conv => whnf) | (refine br_f (by assumption) ?_; conv => whnf) | (refine get_of (by assumption) ?_; conv => whnf) | (refine get_map (by assumption) ?_; conv => whnf) | (refine ⟨cells_att l, ?_⟩; conv => whnf) | (refine call_as hcf hC hasBody_82 ?_ ?_ ?_ ?_; (rw [List.map_take]; rfl); kernel_rfl; kernel_rfl; conv => whnf) | (refine call_up (up_freeze 0 (z := 2) (els := [attA x]) rfl ?_ (up_here ?_)); exact ⟨⟨trivial, trivial, trivial⟩, trivial⟩; conv => whnf) | (refine brd (fun h => ?_) (fun h => ?_) <;> conv => whnf) | (refine br (fun h => ?_) (fun h => ?_) <;> conv => whnf) | (refine ret_now hE ?_; conv => whnf) | (intro hlen; conv => whnf))
    · exact ⟨rfl, by rw [attrsF_dup hn h4 hlt (by rw [hd]; assumption)]⟩
    · refine next_wipe [0, 10, 11, 12] (k + 1) (by kernel_rfl) ⟨hlt, fun j hjk => ?_⟩ (by omega) rfl
      by_cases e : j = k
      · subst e; rw [hd]; assumption
      · exact hj j (by omega)
  · conv => whnf
    repeat' (first | (refine brd_t (by first | assumption | omega) ?_; conv => whnf) | (refine brd_f (by first | assumption | omega) ?_; conv => whnf) | (refine ask (by first | assumption | omega) ?_; conv => whnf) | (refine fit64 (by omega) ?_; conv => whnf) | (refine fit (by simp only [kmin, kmax]; omega) ?_; conv => whnf) | (refine br_t (by assumption) ?_; conv => whnf) | (refine br_f (by assumption) ?_; conv => whnf) | (refine get_of (by assumption) ?_; conv => whnf) | (refine get_map (by assumption) ?_; conv => whnf) | (refine brd (fun h => ?_) (fun h => ?_) <;> conv => whnf) | (refine br (fun h => ?_) (fun h => ?_) <;> conv => whnf) | (refine ret_now hE ?_; conv => whnf) | (intro hlen; conv => whnf))
    exact ⟨rfl, by rw [attrsF_ok hn h4 (fun j hjl => hj j (by omega))]⟩

/-! ### Elements whose text is raw -/
def rawL : List (List UInt8) := [[115, 99, 114, 105, 112, 116], [115, 116, 121, 108, 101], [116, 101, 120, 116, 97, 114, 101, 97], [116, 105, 116, 108, 101]]
theorem emit_raw (s : List UInt8) : Fn1 Try.prog 85 [.str s] (fun r => r = .bool (decide (s ∈ rawL))) := by
  refine fn1E (T := Try.tt) Try.func85 rfl tt_all follows_all ?_ ?_ fun C hC hE => ?_
  · kernel_rfl
  · exact Nat.le_of_ble_eq_true (by kernel_rfl)
  conv => whnf
  refine call_up (up_freeze 0 (z := 1) (els := rawL.map V.str) rfl ?_ (up_here ?_))
  · exact ⟨trivial, trivial, trivial, trivial, trivial⟩
  conv => whnf
  repeat' (first | (refine brd_t (by first | assumption | omega) ?_; conv => whnf) | (refine brd_f (by first | assumption | omega) ?_; conv => whnf) | (refine ask (by first | assumption | omega) ?_; conv => whnf) | (refine fit64 (by omega) ?_; conv => whnf) | (refine fit (by simp only [kmin, kmax]; omega) ?_; conv => whnf) | (refine br_t (by assumption) ?_; conv => whnf) | (refine br_f (by assumption) ?_; conv => whnf) | (refine get_of (by assumption) ?_; conv => whnf) | (refine get_map (by assumption) ?_; conv => whnf) | (refine call_eq (contains_str rawL s) hC hasBody_101 ?_ ?_ ?_; kernel_rfl; kernel_rfl; conv => whnf) | (refine callq_eq (contains_str rawL s) hC hasBody_101 ?_ ?_ ?_; kernel_rfl; kernel_rfl; conv => whnf) | (refine brd (fun h => ?_) (fun h => ?_) <;> conv => whnf) | (refine br (fun h => ?_) (fun h => ?_) <;> conv => whnf) | (refine ret_now hE ?_; conv => whnf) | (intro hlen; conv => whnf))
  all_goals exact ⟨rfl, by congr 1; exact Eq.symm (by assumption)⟩

/-! ### The document's answer -/
theorem attrs_fault (l : List Atr) : Fn1 Try.prog 52 [.lst (l.map attA)] (fun r => r = .int .i64 (attrsF l)) := by
  have hlm : (l.map attA).length = l.length := by simp
  refine fn1E (T := Try.tt) Try.func52 rfl tt_all follows_all ?_ ?_ fun C hC hE => ?_
  · kernel_rfl
  · exact Nat.le_of_ble_eq_true (by kernel_rfl)
  conv => whnf
  repeat' (first | (refine brd_t (by first | assumption | omega) ?_; conv => whnf) | (refine brd_f (by first | assumption | omega) ?_; conv => whnf) | (refine ask (by first | assumption | omega) ?_; conv => whnf) | (refine fit64 (by omega) ?_; conv => whnf) | (refine fit (by simp only [kmin, kmax]; omega) ?_; conv => whnf) | (refine br_t (by assumption) ?_; conv => whnf) | (refine br_f (by assumption) ?_; conv => whnf) | (refine get_of (by assumption) ?_; conv => whnf) | (refine get_map (by assumption) ?_; conv => whnf) | (refine brd (fun h => ?_) (fun h => ?_) <;> conv => whnf) | (refine br (fun h => ?_) (fun h => ?_) <;> conv => whnf) | (refine ret_now hE ?_; conv => whnf) | (intro hlen; conv => whnf))
  refine loopE (fun k : Nat => ⟨43, [(0, .lst (l.map attA)), (7, .lst (l.map attA)), (8, .int .i64 (l.map attA).length), (9, .int .i64 k)], []⟩) (fun k => k ≤ l.length ∧ ∀ j < k, ∀ a, l[j]? = some a → nameOk a.name = true) (fun k => l.length - k) 0 hE ?_ ?_ ⟨Nat.zero_le _, fun j hj => by omega⟩ ?_
  · kernel_rfl
  · exact at_keep [0, 7, 8, 9] rfl
  intro k hk
  obtain ⟨hk, hj⟩ := hk
  by_cases hlt : k < l.length
  · obtain ⟨x, hx⟩ : ∃ x, l[k]? = some x := ⟨_, List.getElem?_eq_getElem hlt⟩
    conv => whnf
    repeat' (first | (refine brd_t (by first | assumption | omega) ?_; conv => whnf) | (refine brd_f (by first | assumption | omega) ?_; conv => whnf) | (refine ask (by first | assumption | omega) ?_; conv => whnf) | (refine fit64 (by omega) ?_; conv => whnf) | (refine fit (by simp only [kmin, kmax]; omega) ?_; conv => whnf) | (refine br_t (by assumption) ?_; conv => whnf) | (refine br_f (by assumption) ?_; conv => whnf) | (refine get_of (by assumption) ?_; conv => whnf) | (refine get_map (by assumption) ?_; conv => whnf) | (refine call_eq (name_may _) hC hasBody_43 ?_ ?_ ?_; kernel_rfl; kernel_rfl; conv => whnf) | (refine callq_eq (name_may _) hC hasBody_43 ?_ ?_ ?_; kernel_rfl; kernel_rfl; conv => whnf) | (refine brd (fun h => ?_) (fun h => ?_) <;> conv => whnf) | (refine br (fun h => ?_) (fun h => ?_) <;> conv => whnf) | (refine ret_now hE ?_; conv => whnf) | (intro hlen; conv => whnf))
    · refine next_wipe [0, 7, 8, 9] (k + 1) (by kernel_rfl) ⟨hlt, fun j hjk a ha => ?_⟩ (by omega) rfl
      by_cases e : j = k
      · subst e; rw [hx] at ha; cases ha; assumption
      · exact hj j (by omega) a ha
    · exact ⟨rfl, by rw [attrsF_name (List.any_eq_true.2 ⟨x, List.mem_of_getElem? hx, by simp; assumption⟩)]⟩
  · have hn : (l.any fun a => !nameOk a.name) = false := by
      rw [List.any_eq_false]
      intro a ha
      obtain ⟨j, hj'⟩ := List.mem_iff_getElem?.1 ha
      rw [hj j (by have := (List.getElem?_eq_some_iff.1 hj').1; omega) a hj']
      simp
    conv => whnf
    repeat' (first | (refine brd_t (by first | assumption | omega) ?_; conv => whnf) | (refine brd_f (by first | assumption | omega) ?_; conv => whnf) | (refine ask (by first | assumption | omega) ?_; conv => whnf) | (refine fit64 (by omega) ?_; conv => whnf) | (refine fit (by simp only [kmin, kmax]; omega) ?_; conv => whnf) | (refine br_t (by assumption) ?_; conv => whnf) | (refine br_f (by assumption) ?_; conv => whnf) | (refine get_of (by assumption) ?_; conv => whnf) | (refine get_map (by assumption) ?_; conv => whnf) | (refine brd (fun h => ?_) (fun h => ?_) <;> conv => whnf) | (refine br (fun h => ?_) (fun h => ?_) <;> conv => whnf) | (refine ret_now hE ?_; conv => whnf) | (intro hlen; conv => whnf))
    · exact ⟨rfl, by rw [attrsF_size hn (by omega)]⟩
    have h4 : ¬ 4 < l.length := by omega
    refine loopE (fun i : Nat => ⟨43, [(0, .lst (l.map attA)), (22, .int .i64 (l.map attA).length), (23, .int .i64 i)], []⟩) (fun k => k ≤ l.length ∧ ∀ j < k, dupAt l j = false) (fun k => l.length - k) 0 hE ?_ ?_ ⟨Nat.zero_le _, fun j hj => by omega⟩ ?_
    · kernel_rfl
    · exact at_keep [0, 22, 23] rfl
    intro i hi
    obtain ⟨hi, hdj⟩ := hi
    by_cases hil : i < l.length
    · obtain ⟨x, hx⟩ : ∃ x, l[i]? = some x := ⟨_, List.getElem?_eq_getElem hil⟩
      conv => whnf
      repeat' (first | (refine brd_t (by first | assumption | omega) ?_; conv => whnf) | (refine brd_f (by first | assumption | omega) ?_; conv => whnf) | (refine ask (by first | assumption | omega) ?_; conv => whnf) | (refine fit64 (by omega) ?_; conv => whnf) | (refine fit (by simp only [kmin, kmax]; omega) ?_; conv => whnf) | (refine br_t (by assumption) ?_; conv => whnf) | (refine br_f (by assumption) ?_; conv => whnf) | (refine get_of (by assumption) ?_; conv => whnf) | (refine get_map (by assumption) ?_; conv => whnf) | (refine brd (fun h => ?_) (fun h => ?_) <;> conv => whnf) | (refine br (fun h => ?_) (fun h => ?_) <;> conv => whnf) | (refine ret_now hE ?_; conv => whnf) | (intro hlen; conv => whnf))
      refine loopE (fun m : Nat => ⟨43, [(0, .lst (l.map attA)), (5, .int .i64 i), (6, .int .i64 m), (22, .int .i64 (l.map attA).length), (23, .int .i64 i)], []⟩) (fun m => m ≤ i ∧ ∀ j < m, ∀ q, l[j]? = some q → q.name ≠ x.name) (fun m => i - m) 0 hE ?_ ?_ ⟨Nat.zero_le _, fun j hj => by omega⟩ ?_
      · kernel_rfl
      · exact at_keep [0, 5, 6, 22, 23] rfl
      intro m hm
      obtain ⟨hm, hmj⟩ := hm
      by_cases hml : m < i
      · obtain ⟨q, hq⟩ : ∃ q, l[m]? = some q := ⟨_, List.getElem?_eq_getElem (by omega)⟩
        conv => whnf
        repeat' (first | (refine brd_t (by first | assumption | omega) ?_; conv => whnf) | (refine brd_f (by first | assumption | omega) ?_; conv => whnf) | (refine ask (by first | assumption | omega) ?_; conv => whnf) | (refine fit64 (by omega) ?_; conv => whnf) | (refine fit (by simp only [kmin, kmax]; omega) ?_; conv => whnf) | (refine br_t (by assumption) ?_; conv => whnf) | (refine br_f (by assumption) ?_; conv => whnf) | (refine get_of (by assumption) ?_; conv => whnf) | (refine get_map (by assumption) ?_; conv => whnf) | (refine brd (fun h => ?_) (fun h => ?_) <;> conv => whnf) | (refine br (fun h => ?_) (fun h => ?_) <;> conv => whnf) | (refine ret_now hE ?_; conv => whnf) | (intro hlen; conv => whnf))
        · refine ⟨rfl, ?_⟩
          rw [attrsF_dup hn h4 hil (dup_of hx ?_)]
          rw [List.any_eq_true]
          exact ⟨q, List.mem_of_getElem? (i := m) (by rw [List.getElem?_take, if_pos hml]; exact hq), decide_eq_true (Eq.symm (by assumption))⟩
        · refine next_keep [0, 5, 6, 22, 23] (m + 1) ⟨hml, fun j hjm q' hq' => ?_⟩ (by omega) rfl
          by_cases e : j = m
          · subst e; rw [hq] at hq'; cases hq'; exact fun h => absurd h.symm (by assumption)
          · exact hmj j (by omega) q' hq'
      · conv => whnf
        repeat' (first | (refine brd_t (by first | assumption | omega) ?_; conv => whnf) | (refine brd_f (by first | assumption | omega) ?_; conv => whnf) | (refine ask (by first | assumption | omega) ?_; conv => whnf) | (refine fit64 (by omega) ?_; conv => whnf) | (refine fit (by simp only [kmin, kmax]; omega) ?_; conv => whnf) | (refine br_t (by assumption) ?_; conv => whnf) | (refine br_f (by assumption) ?_; conv => whnf) | (refine get_of (by assumption) ?_; conv => whnf) | (refine get_map (by assumption) ?_; conv => whnf) | (refine brd (fun h => ?_) (fun h => ?_) <;> conv => whnf) | (refine br (fun h => ?_) (fun h => ?_) <;> conv => whnf) | (refine ret_now hE ?_; conv => whnf) | (intro hlen; conv => whnf))
        refine next_keep [0, 22, 23] (i + 1) ⟨hil, fun j hjm => ?_⟩ (by omega) rfl
        by_cases e : j = i
        · subst e
          refine dup_of hx ?_
          rw [List.any_eq_false]
          intro q hq
          obtain ⟨n, hn'⟩ := List.mem_iff_getElem?.1 hq
          rw [List.getElem?_take] at hn'
          split at hn'
          · simpa using hmj n (by omega) q hn'
          · cases hn'
        · exact hdj j (by omega)
    · conv => whnf
      repeat' (first | (refine brd_t (by first | assumption | omega) ?_; conv => whnf) | (refine brd_f (by first | assumption | omega) ?_; conv => whnf) | (refine ask (by first | assumption | omega) ?_; conv => whnf) | (refine fit64 (by omega) ?_; conv => whnf) | (refine fit (by simp only [kmin, kmax]; omega) ?_; conv => whnf) | (refine br_t (by assumption) ?_; conv => whnf) | (refine br_f (by assumption) ?_; conv => whnf) | (refine get_of (by assumption) ?_; conv => whnf) | (refine get_map (by assumption) ?_; conv => whnf) | (refine brd (fun h => ?_) (fun h => ?_) <;> conv => whnf) | (refine br (fun h => ?_) (fun h => ?_) <;> conv => whnf) | (refine ret_now hE ?_; conv => whnf) | (intro hlen; conv => whnf))
      exact ⟨rfl, by rw [attrsF_ok hn h4 (fun j hjl => hdj j (by omega))]⟩
end Go.Proofs.Ytcfinfdkmpgaaaa
