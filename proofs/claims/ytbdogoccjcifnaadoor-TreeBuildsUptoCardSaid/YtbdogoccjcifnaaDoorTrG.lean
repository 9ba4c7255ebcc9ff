/- The law TreeBuilds, walked. No conditions. -/
import Derived.Test.YtbdogoccjcifnaaDoorTrD
import Derived.Test.YtbdogoccjcifnaaDoorTrF
import Derived.Test.YtbdogoccjcifnaaDoorData
/-! What the program builds is what the document builds: plain. No conditions. -/
set_option linter.unusedSimpArgs false
set_option linter.unusedVariables false
set_option maxRecDepth 100000
namespace Go.Proofs.YtbdogoccjcifnaaDoor
open Go.RowKit

def shp (r : Rc) : Prop := (r.elem = true → r.text = []) ∧ (r.elem = false → r.name = [] ∧ r.atts = [])
def Shp (A : List Rc) : Prop := ∀ r ∈ A, shp r
theorem Shp.shut {A : List Rc} (h : Shp A) (o : Option Nat) : Shp (shutO A o) := by
  intro r hr
  obtain ⟨k, hk⟩ := List.mem_iff_getElem?.1 hr
  obtain ⟨r0, h0, hh⟩ := shutO_get hk
  have := h r0 (List.mem_of_getElem? h0)
  rcases hh with rfl | rfl
  · exact this
  · exact this
theorem Shp.app {A : List Rc} (h : Shp A) {r : Rc} (hr : shp r) : Shp (A ++ [r]) := by
  intro q hq
  rcases List.mem_append.1 hq with h1 | h1
  · exact h q h1
  · rw [List.mem_singleton] at h1; subst h1; exact hr
theorem Shp.set {A : List Rc} (h : Shp A) {r : Rc} (j : Nat) (hr : shp r) : Shp (A.set j r) := by
  intro q hq
  rcases List.mem_or_eq_of_mem_set hq with h1 | h1
  · exact h q h1
  · subst h1; exact hr
theorem step_shp {t : Tk} {s s' : Bs} (h : Shp s.A) (hs : stepB t s = some s') : Shp s'.A := by
  have hb : Shp (liA t (blkA t s.A)) := by
    have h1 : Shp (blkA t s.A) := by
      unfold blkA
      split
      · exact h.shut _
      · exact h
    unfold liA
    split
    · exact h1.shut _
    · exact h1
  unfold stepB at hs
  split at hs
  · cases hs
    unfold startB
    simp only
    split
    · exact hb
    · exact hb.app ⟨fun _ => rfl, fun h => Bool.noConfusion h⟩
  · split at hs
    · cases hs
      exact h.shut _
    · split at hs
      · cases hs
        unfold charsB
        split
        · exact h
        · simp only
          have happ : Shp (s.A ++ [newT t.text s.A]) := h.app ⟨fun h => Bool.noConfusion h, fun _ => ⟨rfl, rfl⟩⟩
          unfold charA
          split
          · exact happ
          · split
            · rename_i r hr
              split
              · rename_i hel
                exact h.set _ ⟨fun h1 => (Bool.false_ne_true (hel.symm.trans h1)).elim, fun h1 => (h r (List.mem_of_getElem? hr)).2 hel⟩
              · exact happ
            · exact h
      · split at hs
        · cases hs; exact h
        · cases hs
theorem run_shp : ∀ (l : List Tk) (s : Bs) (A : List Rc), Wf s.A → Shp s.A → s.A.length ≤ 150 → runB l s = .inr A → Wf A ∧ Shp A ∧ A.length ≤ 150
  | [], s, A, hw, hs, hl, h => by cases h; exact ⟨hw, hs, hl⟩
  | t :: l, s, A, hw, hs, hl, h => by
    rw [runB_cons] at h
    split at h
    · cases h
    · rename_i s' h1
      split at h
      · cases h
      · exact run_shp l s' A (step_ok hw h1).1 (step_shp hs h1) (by omega) h
theorem ndOf_elem {r : Rc} (h : shp r) (he : r.elem = true) (ps : List Nd) : ndOf r ps = dN r ps := by
  unfold ndOf dN
  rw [if_pos he, h.1 he]
theorem ndOf_text {r : Rc} (h : shp r) (he : r.elem = false) {ps : List Nd} : ndOf r ps = dN r [] := by
  unfold ndOf dN
  rw [if_neg (by rw [he]; decide), (h.2 he).1, (h.2 he).2]
/-- A text has nothing in it. -/
theorem kids_text {A : List Rc} (hW : Wf A) {j : Nat} {r : Rc} (hr : A[j]? = some r) (he : r.elem = false) : kids (j + 1) A = [] := by
  cases hk : kids (j + 1) A with
  | nil => rfl
  | cons c l =>
    have hm : c ∈ idsW (fun r => r.inn == j + 1) 0 A := by
      show c ∈ kids (j + 1) A
      rw [hk]; exact List.mem_cons_self
    obtain ⟨i, q, h1, h2, h3⟩ := (idsW_mem _ 0 A c).1 hm
    simp at h3
    rcases hW.par i q h2 with h4 | ⟨x, h4, h5⟩
    · omega
    · rw [h3, Nat.add_sub_cancel, hr] at h4
      cases h4
      rw [he] at h5
      cases h5
theorem tree_eq {A : List Rc} (hW : Wf A) (hS : Shp A) : ∀ f p : Nat, treeN A f p = treeD A f p
  | 0, p => rfl
  | f + 1, p => by
    unfold treeN treeD
    refine List.map_congr_left fun c hc => ?_
    rw [tree_eq hW hS f c]
    obtain ⟨j, r, h1, h2, h3⟩ := (idsW_mem _ 0 A c).1 hc
    obtain rfl : c = j + 1 := by omega
    have hrec : recO A (j + 1) = r := recO_at h2
    rw [hrec]
    have hs := hS r (List.mem_of_getElem? h2)
    cases he : r.elem with
    | true => exact ndOf_elem hs he _
    | false =>
      rw [ndOf_text hs he]
      have : treeD A f (j + 1) = [] := by
        cases f with
        | zero => rfl
        | succ f => unfold treeD; rw [kids_text hW h2 he]; rfl
      rw [this]
theorem built_eq (l : List Tk) : builtD l = builtV l := by
  unfold builtD builtV
  cases h : buildB l with
  | inl c => rfl
  | inr A =>
    unfold buildB at h
    split at h
    · cases h
    · obtain ⟨hW, hS, _⟩ := run_shp l ⟨[], []⟩ A Wf.nil (fun r h => (List.not_mem_nil h).elim) (Nat.zero_le _) h
      simp only [treeV, tree_eq hW hS]
end Go.Proofs.YtbdogoccjcifnaaDoor

/-! The document's SameAttrs, SameNodes at equal arguments, walked. No conditions. -/
namespace Go.Proofs.YtbdogoccjcifnaaDoor
open Go.RowKit

theorem same_attrs (l : List Atr) : Fn1 Tryd.prog 17 [.lst (l.map attA), .lst (l.map attA)] (fun r => r = .bool true) := by
  have hlm : (l.map attA).length = l.length := by simp
  refine fn1E (T := Tryd.tt) Tryd.func17 rfl tt_all follows_all ?_ ?_ fun C hC hE => ?_
  · kernel_rfl
  · exact Nat.le_of_ble_eq_true (by kernel_rfl)
  conv => whnf
  repeat' (first | (refine brd_t (by first | assumption | omega) ?_; conv => whnf) | (refine brd_f (by first | assumption | omega) ?_; conv => whnf) | (refine ask (by first | assumption | omega) ?_; conv => whnf) | (refine fit64 (by omega) ?_; conv => whnf) | (refine fit (by simp only [kmin, kmax]; omega) ?_; conv => whnf) | (refine br_t (by assumption) ?_; conv => whnf) | (refine br_f (by assumption) ?_; conv => whnf) | (refine get_of (by assumption) ?_; conv => whnf) | (refine get_map (by assumption) ?_; conv => whnf) | (refine draw_lex hE ?_ ?_; decide +kernel; conv => whnf) | (refine draw_any hE [⟨0, [(0, none), (1, none), (2, none), (3, none), (4, none), (5, none), (6, none), (7, none), (8, none)], none, [], [[]], []⟩] ?_ ?_; decide +kernel; conv => whnf) | (refine brd (fun h => ?_) (fun h => ?_) <;> conv => whnf) | (refine br (fun h => ?_) (fun h => ?_) <;> conv => whnf) | (refine ret_now hE ?_; conv => whnf) | (intro hlen; conv => whnf) | (refine seg_here ?_; conv => whnf) | (refine both ?_ ?_ <;> conv => whnf))
  refine loopE (fun k : Nat => ⟨26, [(0, .lst (l.map attA)), (1, .lst (l.map attA)), (12, .int .i64 (l.map attA).length), (13, .int .i64 k)], []⟩) (fun k => k ≤ l.length) (fun k => l.length - k) 0 hE ?_ ?_ (Nat.zero_le _) ?_
  · kernel_rfl
  · exact at_keep [0, 1, 12, 13] rfl
  intro k hk
  by_cases hlt : k < l.length
  · obtain ⟨x, hx⟩ : ∃ x, l[k]? = some x := ⟨_, List.getElem?_eq_getElem hlt⟩
    conv => whnf
    repeat' (first | (refine brd_t (by first | assumption | omega) ?_; conv => whnf) | (refine brd_f (by first | assumption | omega) ?_; conv => whnf) | (refine ask (by first | assumption | omega) ?_; conv => whnf) | (refine fit64 (by omega) ?_; conv => whnf) | (refine fit (by simp only [kmin, kmax]; omega) ?_; conv => whnf) | (refine br_t (by assumption) ?_; conv => whnf) | (refine br_f (by assumption) ?_; conv => whnf) | (refine get_of (by assumption) ?_; conv => whnf) | (refine get_map (by assumption) ?_; conv => whnf) | (refine draw_lex hE ?_ ?_; decide +kernel; conv => whnf) | (refine draw_any hE [⟨0, [(0, none), (1, none), (2, none), (3, none), (4, none), (5, none), (6, none), (7, none), (8, none)], none, [], [[]], []⟩] ?_ ?_; decide +kernel; conv => whnf) | (refine brd (fun h => ?_) (fun h => ?_) <;> conv => whnf) | (refine br (fun h => ?_) (fun h => ?_) <;> conv => whnf) | (refine ret_now hE ?_; conv => whnf) | (intro hlen; conv => whnf) | (refine seg_here ?_; conv => whnf) | (refine both ?_ ?_ <;> conv => whnf))
    all_goals first | exact next_keep [0, 1, 12, 13] (k + 1) hlt (by omega) rfl | (exfalso; simp_all; done)
  · conv => whnf
    repeat' (first | (refine brd_t (by first | assumption | omega) ?_; conv => whnf) | (refine brd_f (by first | assumption | omega) ?_; conv => whnf) | (refine ask (by first | assumption | omega) ?_; conv => whnf) | (refine fit64 (by omega) ?_; conv => whnf) | (refine fit (by simp only [kmin, kmax]; omega) ?_; conv => whnf) | (refine br_t (by assumption) ?_; conv => whnf) | (refine br_f (by assumption) ?_; conv => whnf) | (refine get_of (by assumption) ?_; conv => whnf) | (refine get_map (by assumption) ?_; conv => whnf) | (refine draw_lex hE ?_ ?_; decide +kernel; conv => whnf) | (refine draw_any hE [⟨0, [(0, none), (1, none), (2, none), (3, none), (4, none), (5, none), (6, none), (7, none), (8, none)], none, [], [[]], []⟩] ?_ ?_; decide +kernel; conv => whnf) | (refine brd (fun h => ?_) (fun h => ?_) <;> conv => whnf) | (refine br (fun h => ?_) (fun h => ?_) <;> conv => whnf) | (refine ret_now hE ?_; conv => whnf) | (intro hlen; conv => whnf) | (refine seg_here ?_; conv => whnf) | (refine both ?_ ?_ <;> conv => whnf))
    exact ⟨rfl, rfl⟩
set_option maxHeartbeats 8000000 in
theorem same_nodes : ∀ (N : Nat) (l : List Nd), szL l ≤ N → Fn1 Tryd.prog 6 [.lst (nodesL l), .lst (nodesL l)] (fun r => r = .bool true) := by
  intro N
  induction N using Nat.strongRecOn with
  | _ N ih =>
    intro l hps
    have hlm := nodesL_length l
    refine fn1E (T := Tryd.tt) Tryd.func6 rfl tt_all follows_all ?_ ?_ fun C hC hE => ?_
    · kernel_rfl
    · exact Nat.le_of_ble_eq_true (by kernel_rfl)
    conv => whnf
    repeat' (first | (refine brd_t (by first | assumption | omega) ?_; conv => whnf) | (refine brd_f (by first | assumption | omega) ?_; conv => whnf) | (refine ask (by first | assumption | omega) ?_; conv => whnf) | (refine fit64 (by omega) ?_; conv => whnf) | (refine fit (by simp only [kmin, kmax]; omega) ?_; conv => whnf) | (refine br_t (by assumption) ?_; conv => whnf) | (refine br_f (by assumption) ?_; conv => whnf) | (refine get_of (by assumption) ?_; conv => whnf) | (refine get_map (by assumption) ?_; conv => whnf) | (refine draw_lex hE ?_ ?_; decide +kernel; conv => whnf) | (refine draw_any hE [⟨0, [(0, none), (1, none), (2, none), (3, none), (4, none), (5, none), (6, none), (7, none), (8, none), (9, none), (10, none), (11, none), (12, none), (13, none), (14, none), (15, none), (16, none), (17, none), (18, none), (19, none), (20, none), (21, none), (22, none), (23, none), (24, none), (25, none), (26, none), (27, none), (28, none), (29, none), (30, none), (31, none), (32, none), (33, none), (34, none), (35, none), (36, none), (37, none), (38, none), (39, none), (40, none), (41, none), (42, none), (43, none), (44, none), (45, none), (46, none), (47, none), (48, none), (49, none), (50, none), (51, none)], none, [], [[]], []⟩] ?_ ?_; decide +kernel; conv => whnf) | (refine brd (fun h => ?_) (fun h => ?_) <;> conv => whnf) | (refine br (fun h => ?_) (fun h => ?_) <;> conv => whnf) | (refine ret_now hE ?_; conv => whnf) | (intro hlen; conv => whnf) | (refine seg_here ?_; conv => whnf) | (refine both ?_ ?_ <;> conv => whnf))
    refine loopE (fun k : Nat => ⟨69, [(0, .lst (nodesL l)), (1, .lst (nodesL l)), (12, .int .i64 (nodesL l).length), (13, .int .i64 k)], []⟩) (fun k => k ≤ l.length) (fun k => l.length - k) 0 hE ?_ ?_ (Nat.zero_le _) ?_
    · kernel_rfl
    · exact at_keep [0, 1, 12, 13] rfl
    intro k hk
    by_cases hlt : k < l.length
    · obtain ⟨n, a, t, qs, hx, hx'⟩ := node_at hlt
      have hp2 := szL_mem (List.mem_of_getElem? hx)
      have hp1 : szL qs < szN (.mk n a t qs) := by simp only [szN]; omega
      have ih' := ih (szL qs) (by omega) qs (Nat.le_refl _)
      conv => whnf
      repeat' (first | (refine brd_t (by first | assumption | omega) ?_; conv => whnf) | (refine brd_f (by first | assumption | omega) ?_; conv => whnf) | (refine ask (by first | assumption | omega) ?_; conv => whnf) | (refine fit64 (by omega) ?_; conv => whnf) | (refine fit (by simp only [kmin, kmax]; omega) ?_; conv => whnf) | (refine br_t (by assumption) ?_; conv => whnf) | (refine br_f (by assumption) ?_; conv => whnf) | (refine get_of (by assumption) ?_; conv => whnf) | (refine get_map (by assumption) ?_; conv => whnf) | (refine call_eq (same_attrs _) hC hasBody_17 ?_ ?_ ?_; kernel_rfl; kernel_rfl; conv => whnf) | (refine callq_eq (same_attrs _) hC hasBody_17 ?_ ?_ ?_; kernel_rfl; kernel_rfl; conv => whnf) | (refine call_eq (ih') hC hasBody_6 ?_ ?_ ?_; kernel_rfl; kernel_rfl; conv => whnf) | (refine callq_eq (ih') hC hasBody_6 ?_ ?_ ?_; kernel_rfl; kernel_rfl; conv => whnf) | (refine draw_lex hE ?_ ?_; decide +kernel; conv => whnf) | (refine draw_any hE [⟨0, [(0, none), (1, none), (2, none), (3, none), (4, none), (5, none), (6, none), (7, none), (8, none), (9, none), (10, none), (11, none), (12, none), (13, none), (14, none), (15, none), (16, none), (17, none), (18, none), (19, none), (20, none), (21, none), (22, none), (23, none), (24, none), (25, none), (26, none), (27, none), (28, none), (29, none), (30, none), (31, none), (32, none), (33, none), (34, none), (35, none), (36, none), (37, none), (38, none), (39, none), (40, none), (41, none), (42, none), (43, none), (44, none), (45, none), (46, none), (47, none), (48, none), (49, none), (50, none), (51, none)], none, [], [[]], []⟩] ?_ ?_; decide +kernel; conv => whnf) | (refine brd (fun h => ?_) (fun h => ?_) <;> conv => whnf) | (refine br (fun h => ?_) (fun h => ?_) <;> conv => whnf) | (refine ret_now hE ?_; conv => whnf) | (intro hlen; conv => whnf) | (refine seg_here ?_; conv => whnf) | (refine both ?_ ?_ <;> conv => whnf))
      all_goals first | exact next_keep [0, 1, 12, 13] (k + 1) hlt (by omega) rfl | (exfalso; simp_all; done) | trace_state
    · conv => whnf
      repeat' (first | (refine brd_t (by first | assumption | omega) ?_; conv => whnf) | (refine brd_f (by first | assumption | omega) ?_; conv => whnf) | (refine ask (by first | assumption | omega) ?_; conv => whnf) | (refine fit64 (by omega) ?_; conv => whnf) | (refine fit (by simp only [kmin, kmax]; omega) ?_; conv => whnf) | (refine br_t (by assumption) ?_; conv => whnf) | (refine br_f (by assumption) ?_; conv => whnf) | (refine get_of (by assumption) ?_; conv => whnf) | (refine get_map (by assumption) ?_; conv => whnf) | (refine draw_lex hE ?_ ?_; decide +kernel; conv => whnf) | (refine draw_any hE [⟨0, [(0, none), (1, none), (2, none), (3, none), (4, none), (5, none), (6, none), (7, none), (8, none), (9, none), (10, none), (11, none), (12, none), (13, none), (14, none), (15, none), (16, none), (17, none), (18, none), (19, none), (20, none), (21, none), (22, none), (23, none), (24, none), (25, none), (26, none), (27, none), (28, none), (29, none), (30, none), (31, none), (32, none), (33, none), (34, none), (35, none), (36, none), (37, none), (38, none), (39, none), (40, none), (41, none), (42, none), (43, none), (44, none), (45, none), (46, none), (47, none), (48, none), (49, none), (50, none), (51, none)], none, [], [[]], []⟩] ?_ ?_; decide +kernel; conv => whnf) | (refine brd (fun h => ?_) (fun h => ?_) <;> conv => whnf) | (refine br (fun h => ?_) (fun h => ?_) <;> conv => whnf) | (refine ret_now hE ?_; conv => whnf) | (intro hlen; conv => whnf) | (refine seg_here ?_; conv => whnf) | (refine both ?_ ?_ <;> conv => whnf))
      exact ⟨rfl, rfl⟩
def zeroN : V := .agg [.str [], .nils, .str [], .nils]
theorem same_attrs_nil : Fn1 Tryd.prog 17 [.nils, .nils] (fun r => r = .bool true) := by
  refine fn1E (T := Tryd.tt) Tryd.func17 rfl tt_all follows_all ?_ ?_ fun C hC hE => ?_
  · kernel_rfl
  · exact Nat.le_of_ble_eq_true (by kernel_rfl)
  conv => whnf
  repeat' (first | (refine brd_t (by first | assumption | omega) ?_; conv => whnf) | (refine brd_f (by first | assumption | omega) ?_; conv => whnf) | (refine ask (by first | assumption | omega) ?_; conv => whnf) | (refine fit64 (by omega) ?_; conv => whnf) | (refine fit (by simp only [kmin, kmax]; omega) ?_; conv => whnf) | (refine br_t (by assumption) ?_; conv => whnf) | (refine br_f (by assumption) ?_; conv => whnf) | (refine get_of (by assumption) ?_; conv => whnf) | (refine get_map (by assumption) ?_; conv => whnf) | (refine draw_lex hE ?_ ?_; decide +kernel; conv => whnf) | (refine draw_any hE [⟨0, [(0, none), (1, none), (2, none), (3, none), (4, none), (5, none), (6, none), (7, none), (8, none)], none, [], [[]], []⟩] ?_ ?_; decide +kernel; conv => whnf) | (refine brd (fun h => ?_) (fun h => ?_) <;> conv => whnf) | (refine br (fun h => ?_) (fun h => ?_) <;> conv => whnf) | (refine ret_now hE ?_; conv => whnf) | (intro hlen; conv => whnf) | (refine seg_here ?_; conv => whnf) | (refine both ?_ ?_ <;> conv => whnf))
  refine loopE (fun k : Nat => ⟨26, [(0, .nils), (1, .nils), (12, .int .i64 0), (13, .int .i64 0)], []⟩) (fun k => True) (fun k => k) 0 hE ?_ ?_ trivial ?_
  · kernel_rfl
  · exact at_keep [0, 1, 12, 13] rfl
  intro k hk
  conv => whnf
  repeat' (first | (refine brd_t (by first | assumption | omega) ?_; conv => whnf) | (refine brd_f (by first | assumption | omega) ?_; conv => whnf) | (refine ask (by first | assumption | omega) ?_; conv => whnf) | (refine fit64 (by omega) ?_; conv => whnf) | (refine fit (by simp only [kmin, kmax]; omega) ?_; conv => whnf) | (refine br_t (by assumption) ?_; conv => whnf) | (refine br_f (by assumption) ?_; conv => whnf) | (refine get_of (by assumption) ?_; conv => whnf) | (refine get_map (by assumption) ?_; conv => whnf) | (refine draw_lex hE ?_ ?_; decide +kernel; conv => whnf) | (refine draw_any hE [⟨0, [(0, none), (1, none), (2, none), (3, none), (4, none), (5, none), (6, none), (7, none), (8, none)], none, [], [[]], []⟩] ?_ ?_; decide +kernel; conv => whnf) | (refine brd (fun h => ?_) (fun h => ?_) <;> conv => whnf) | (refine br (fun h => ?_) (fun h => ?_) <;> conv => whnf) | (refine ret_now hE ?_; conv => whnf) | (intro hlen; conv => whnf) | (refine seg_here ?_; conv => whnf) | (refine both ?_ ?_ <;> conv => whnf))
  exact ⟨rfl, rfl⟩
theorem same_nodes_nil : Fn1 Tryd.prog 6 [.nils, .nils] (fun r => r = .bool true) := by
  refine fn1E (T := Tryd.tt) Tryd.func6 rfl tt_all follows_all ?_ ?_ fun C hC hE => ?_
  · kernel_rfl
  · exact Nat.le_of_ble_eq_true (by kernel_rfl)
  conv => whnf
  repeat' (first | (refine brd_t (by first | assumption | omega) ?_; conv => whnf) | (refine brd_f (by first | assumption | omega) ?_; conv => whnf) | (refine ask (by first | assumption | omega) ?_; conv => whnf) | (refine fit64 (by omega) ?_; conv => whnf) | (refine fit (by simp only [kmin, kmax]; omega) ?_; conv => whnf) | (refine br_t (by assumption) ?_; conv => whnf) | (refine br_f (by assumption) ?_; conv => whnf) | (refine get_of (by assumption) ?_; conv => whnf) | (refine get_map (by assumption) ?_; conv => whnf) | (refine draw_lex hE ?_ ?_; decide +kernel; conv => whnf) | (refine draw_any hE [⟨0, [(0, none), (1, none), (2, none), (3, none), (4, none), (5, none), (6, none), (7, none), (8, none), (9, none), (10, none), (11, none), (12, none), (13, none), (14, none), (15, none), (16, none), (17, none), (18, none), (19, none), (20, none), (21, none), (22, none), (23, none), (24, none), (25, none), (26, none), (27, none), (28, none), (29, none), (30, none), (31, none), (32, none), (33, none), (34, none), (35, none), (36, none), (37, none), (38, none), (39, none), (40, none), (41, none), (42, none), (43, none), (44, none), (45, none), (46, none), (47, none), (48, none), (49, none), (50, none), (51, none)], none, [], [[]], []⟩] ?_ ?_; decide +kernel; conv => whnf) | (refine brd (fun h => ?_) (fun h => ?_) <;> conv => whnf) | (refine br (fun h => ?_) (fun h => ?_) <;> conv => whnf) | (refine ret_now hE ?_; conv => whnf) | (intro hlen; conv => whnf) | (refine seg_here ?_; conv => whnf) | (refine both ?_ ?_ <;> conv => whnf))
  refine loopE (fun k : Nat => ⟨69, [(0, .nils), (1, .nils), (12, .int .i64 0), (13, .int .i64 0)], []⟩) (fun k => True) (fun k => k) 0 hE ?_ ?_ trivial ?_
  · kernel_rfl
  · exact at_keep [0, 1, 12, 13] rfl
  intro k hk
  conv => whnf
  repeat' (first | (refine brd_t (by first | assumption | omega) ?_; conv => whnf) | (refine brd_f (by first | assumption | omega) ?_; conv => whnf) | (refine ask (by first | assumption | omega) ?_; conv => whnf) | (refine fit64 (by omega) ?_; conv => whnf) | (refine fit (by simp only [kmin, kmax]; omega) ?_; conv => whnf) | (refine br_t (by assumption) ?_; conv => whnf) | (refine br_f (by assumption) ?_; conv => whnf) | (refine get_of (by assumption) ?_; conv => whnf) | (refine get_map (by assumption) ?_; conv => whnf) | (refine draw_lex hE ?_ ?_; decide +kernel; conv => whnf) | (refine draw_any hE [⟨0, [(0, none), (1, none), (2, none), (3, none), (4, none), (5, none), (6, none), (7, none), (8, none), (9, none), (10, none), (11, none), (12, none), (13, none), (14, none), (15, none), (16, none), (17, none), (18, none), (19, none), (20, none), (21, none), (22, none), (23, none), (24, none), (25, none), (26, none), (27, none), (28, none), (29, none), (30, none), (31, none), (32, none), (33, none), (34, none), (35, none), (36, none), (37, none), (38, none), (39, none), (40, none), (41, none), (42, none), (43, none), (44, none), (45, none), (46, none), (47, none), (48, none), (49, none), (50, none), (51, none)], none, [], [[]], []⟩] ?_ ?_; decide +kernel; conv => whnf) | (refine brd (fun h => ?_) (fun h => ?_) <;> conv => whnf) | (refine br (fun h => ?_) (fun h => ?_) <;> conv => whnf) | (refine ret_now hE ?_; conv => whnf) | (intro hlen; conv => whnf) | (refine seg_here ?_; conv => whnf) | (refine both ?_ ?_ <;> conv => whnf))
  exact ⟨rfl, rfl⟩
theorem same_nodes_zero : Fn1 Tryd.prog 6 [.lst [zeroN], .lst [zeroN]] (fun r => r = .bool true) := by
  have h0 : ([zeroN] : List V)[0]? = some (.agg [.str [], .nils, .str [], .nils]) := rfl
  refine fn1E (T := Tryd.tt) Tryd.func6 rfl tt_all follows_all ?_ ?_ fun C hC hE => ?_
  · kernel_rfl
  · exact Nat.le_of_ble_eq_true (by kernel_rfl)
  conv => whnf
  repeat' (first | (refine brd_t (by first | assumption | omega) ?_; conv => whnf) | (refine brd_f (by first | assumption | omega) ?_; conv => whnf) | (refine ask (by first | assumption | omega) ?_; conv => whnf) | (refine fit64 (by omega) ?_; conv => whnf) | (refine fit (by simp only [kmin, kmax]; omega) ?_; conv => whnf) | (refine br_t (by assumption) ?_; conv => whnf) | (refine br_f (by assumption) ?_; conv => whnf) | (refine get_of (by assumption) ?_; conv => whnf) | (refine get_map (by assumption) ?_; conv => whnf) | (refine draw_lex hE ?_ ?_; decide +kernel; conv => whnf) | (refine draw_any hE [⟨0, [(0, none), (1, none), (2, none), (3, none), (4, none), (5, none), (6, none), (7, none), (8, none), (9, none), (10, none), (11, none), (12, none), (13, none), (14, none), (15, none), (16, none), (17, none), (18, none), (19, none), (20, none), (21, none), (22, none), (23, none), (24, none), (25, none), (26, none), (27, none), (28, none), (29, none), (30, none), (31, none), (32, none), (33, none), (34, none), (35, none), (36, none), (37, none), (38, none), (39, none), (40, none), (41, none), (42, none), (43, none), (44, none), (45, none), (46, none), (47, none), (48, none), (49, none), (50, none), (51, none)], none, [], [[]], []⟩] ?_ ?_; decide +kernel; conv => whnf) | (refine brd (fun h => ?_) (fun h => ?_) <;> conv => whnf) | (refine br (fun h => ?_) (fun h => ?_) <;> conv => whnf) | (refine ret_now hE ?_; conv => whnf) | (intro hlen; conv => whnf) | (refine seg_here ?_; conv => whnf) | (refine both ?_ ?_ <;> conv => whnf))
  refine loopE (fun k : Nat => ⟨69, [(0, .lst [zeroN]), (1, .lst [zeroN]), (12, .int .i64 1), (13, .int .i64 k)], []⟩) (fun k => k ≤ 1) (fun k => 1 - k) 0 hE ?_ ?_ (by omega) ?_
  · kernel_rfl
  · exact at_keep [0, 1, 12, 13] rfl
  intro k hk
  by_cases hlt : k < 1
  · obtain rfl : k = 0 := by omega
    conv => whnf
    repeat' (first | (refine brd_t (by first | assumption | omega) ?_; conv => whnf) | (refine brd_f (by first | assumption | omega) ?_; conv => whnf) | (refine ask (by first | assumption | omega) ?_; conv => whnf) | (refine fit64 (by omega) ?_; conv => whnf) | (refine fit (by simp only [kmin, kmax]; omega) ?_; conv => whnf) | (refine br_t (by assumption) ?_; conv => whnf) | (refine br_f (by assumption) ?_; conv => whnf) | (refine get_of (by assumption) ?_; conv => whnf) | (refine get_map (by assumption) ?_; conv => whnf) | (refine call_eq (same_attrs_nil) hC hasBody_17 ?_ ?_ ?_; kernel_rfl; kernel_rfl; conv => whnf) | (refine callq_eq (same_attrs_nil) hC hasBody_17 ?_ ?_ ?_; kernel_rfl; kernel_rfl; conv => whnf) | (refine call_eq (same_nodes_nil) hC hasBody_6 ?_ ?_ ?_; kernel_rfl; kernel_rfl; conv => whnf) | (refine callq_eq (same_nodes_nil) hC hasBody_6 ?_ ?_ ?_; kernel_rfl; kernel_rfl; conv => whnf) | (refine draw_lex hE ?_ ?_; decide +kernel; conv => whnf) | (refine draw_any hE [⟨0, [(0, none), (1, none), (2, none), (3, none), (4, none), (5, none), (6, none), (7, none), (8, none), (9, none), (10, none), (11, none), (12, none), (13, none), (14, none), (15, none), (16, none), (17, none), (18, none), (19, none), (20, none), (21, none), (22, none), (23, none), (24, none), (25, none), (26, none), (27, none), (28, none), (29, none), (30, none), (31, none), (32, none), (33, none), (34, none), (35, none), (36, none), (37, none), (38, none), (39, none), (40, none), (41, none), (42, none), (43, none), (44, none), (45, none), (46, none), (47, none), (48, none), (49, none), (50, none), (51, none)], none, [], [[]], []⟩] ?_ ?_; decide +kernel; conv => whnf) | (refine brd (fun h => ?_) (fun h => ?_) <;> conv => whnf) | (refine br (fun h => ?_) (fun h => ?_) <;> conv => whnf) | (refine ret_now hE ?_; conv => whnf) | (intro hlen; conv => whnf) | (refine seg_here ?_; conv => whnf) | (refine both ?_ ?_ <;> conv => whnf))
    all_goals first | exact next_keep [0, 1, 12, 13] 1 (by omega) (by omega) rfl | (exfalso; simp_all; done) | trace_state
  · obtain rfl : k = 1 := by omega
    conv => whnf
    repeat' (first | (refine brd_t (by first | assumption | omega) ?_; conv => whnf) | (refine brd_f (by first | assumption | omega) ?_; conv => whnf) | (refine ask (by first | assumption | omega) ?_; conv => whnf) | (refine fit64 (by omega) ?_; conv => whnf) | (refine fit (by simp only [kmin, kmax]; omega) ?_; conv => whnf) | (refine br_t (by assumption) ?_; conv => whnf) | (refine br_f (by assumption) ?_; conv => whnf) | (refine get_of (by assumption) ?_; conv => whnf) | (refine get_map (by assumption) ?_; conv => whnf) | (refine draw_lex hE ?_ ?_; decide +kernel; conv => whnf) | (refine draw_any hE [⟨0, [(0, none), (1, none), (2, none), (3, none), (4, none), (5, none), (6, none), (7, none), (8, none), (9, none), (10, none), (11, none), (12, none), (13, none), (14, none), (15, none), (16, none), (17, none), (18, none), (19, none), (20, none), (21, none), (22, none), (23, none), (24, none), (25, none), (26, none), (27, none), (28, none), (29, none), (30, none), (31, none), (32, none), (33, none), (34, none), (35, none), (36, none), (37, none), (38, none), (39, none), (40, none), (41, none), (42, none), (43, none), (44, none), (45, none), (46, none), (47, none), (48, none), (49, none), (50, none), (51, none)], none, [], [[]], []⟩] ?_ ?_; decide +kernel; conv => whnf) | (refine brd (fun h => ?_) (fun h => ?_) <;> conv => whnf) | (refine br (fun h => ?_) (fun h => ?_) <;> conv => whnf) | (refine ret_now hE ?_; conv => whnf) | (intro hlen; conv => whnf) | (refine seg_here ?_; conv => whnf) | (refine both ?_ ?_ <;> conv => whnf))
    exact ⟨rfl, rfl⟩
end Go.Proofs.YtbdogoccjcifnaaDoor

/-! The law TreeBuilds, walked. No conditions. -/
namespace Go.Proofs.YtbdogoccjcifnaaDoor
open Go.RowKit

theorem builtV_cases (l : List Tk) : (∃ c : Int, builtV l = .tup [.lst (nodesL []), .int .i64 c]) ∨ ∃ ns : List Nd, builtV l = .tup [.lst (nodesL ns), .int .i64 0] := by
  unfold builtV
  cases buildB l with
  | inl c => exact .inl ⟨c, rfl⟩
  | inr A => exact .inr ⟨_, rfl⟩
theorem treeBuilds_law (l : List Tk) (hx : totT l ≤ 1048576) (hat : ∀ t ∈ l, t.attrs.length ≤ 1048576) : Fn1G Tryd.prog GT 3 [.lst (l.map tokA)] (fun r => r = .bool true) := by
  have h1 := tree_build l hx hat
  have h2 := tree_built l hx hat
  rw [built_eq] at h2
  have hr : ∃ (ns : List Nd) (c : Int), builtV l = .tup [.lst (nodesL ns), .int .i64 c] := by
    rcases builtV_cases l with ⟨c, h⟩ | ⟨ns, h⟩
    · exact ⟨_, c, h⟩
    · exact ⟨ns, 0, h⟩
  obtain ⟨ns, c, hr⟩ := hr
  rw [hr] at h1 h2
  have h3 := same_nodes _ ns (Nat.le_refl _)
  refine fn1GE (T := Tryd.tt) Tryd.func3 rfl tt_all follows_all ?_ ?_ fun C hC hW hG hE => ?_
  · kernel_rfl
  · exact Nat.le_of_ble_eq_true (by kernel_rfl)
  conv => whnf
  have hk := h1.c hC hW keptGT hG
  repeat' (first | (refine brd_t (by first | assumption | omega) ?_; conv => whnf) | (refine brd_f (by first | assumption | omega) ?_; conv => whnf) | (refine ask (by first | assumption | omega) ?_; conv => whnf) | (refine fit64 (by omega) ?_; conv => whnf) | (refine fit (by simp only [kmin, kmax]; omega) ?_; conv => whnf) | (refine br_t (by assumption) ?_; conv => whnf) | (refine br_f (by assumption) ?_; conv => whnf) | (refine get_of (by assumption) ?_; conv => whnf) | (refine get_map (by assumption) ?_; conv => whnf) | (refine callc_eq (hk) hC hasBody_4 rfl ?_ ?_ ?_; kernel_rfl; kernel_rfl; conv => whnf) | (refine callcq_eq (hk) hC hasBody_4 rfl ?_ ?_ ?_; kernel_rfl; kernel_rfl; conv => whnf) | (refine call_eq (h2) hC hasBody_5 ?_ ?_ ?_; kernel_rfl; kernel_rfl; conv => whnf) | (refine callq_eq (h2) hC hasBody_5 ?_ ?_ ?_; kernel_rfl; kernel_rfl; conv => whnf) | (refine call_eq (h3) hC hasBody_6 ?_ ?_ ?_; kernel_rfl; kernel_rfl; conv => whnf) | (refine callq_eq (h3) hC hasBody_6 ?_ ?_ ?_; kernel_rfl; kernel_rfl; conv => whnf) | (refine brd_t rfl ?_; conv => whnf) | (refine draw_lex hE ?_ ?_; decide +kernel; conv => whnf) | (refine brd (fun h => ?_) (fun h => ?_) <;> conv => whnf) | (refine br (fun h => ?_) (fun h => ?_) <;> conv => whnf) | (refine ret_now hE ?_; conv => whnf) | (intro hlen; conv => whnf) | (refine seg_here ?_; conv => whnf) | (refine both ?_ ?_ <;> conv => whnf))
  all_goals exact ⟨rfl, rfl⟩
end Go.Proofs.YtbdogoccjcifnaaDoor
