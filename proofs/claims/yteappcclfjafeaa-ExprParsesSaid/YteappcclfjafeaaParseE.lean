/- The document's flush, walked. No conditions. -/
import Derived.Test.YteappcclfjafeaaParseD
set_option linter.unusedSimpArgs false
set_option linter.unusedVariables false
set_option maxRecDepth 100000
namespace Go.Proofs.Yteappcclfjafeaa
open Go.RowKit

def allV : Option Ex → V
  | none => .nilp
  | some a => .rp (exG a)
def obF (all : Option Ex) (now : Ex) : List Ob := [.row 1 [allV all], .row 3 [.agg (exG now)]]
set_option maxHeartbeats 4000000 in
theorem h_flush (all : Option Ex) (now : Ex) (ha : ∀ a, all = some a → szE a ≤ 1048576) (hn : szE now ≤ 1048576) : HFn Try.prog 46 [.ptr 0 0 0, .ptr 1 0 0] (obF all now) [0, 1] (fun v o => v = .tup [] ∧ o = obF (some (flu all now)) now) := by
  refine hfnE (T := Try.tt) Try.func46 rfl tt_all follows_all ?_ ?_ fun C vs hC hE => ?_
  · kernel_rfl
  · exact Nat.le_of_ble_eq_true (by kernel_rfl)
  cases all with
  | none =>
    conv => whnf
    repeat' (first | (refine brd_t (by first | assumption | omega) ?_; conv => whnf) | (refine brd_f (by first | assumption | omega) ?_; conv => whnf) | (refine ask (by first | assumption | omega) ?_; conv => whnf) | (refine fit64 (by omega) ?_; conv => whnf) | (refine fit (by simp only [kmin, kmax]; omega) ?_; conv => whnf) | (refine br_t (by assumption) ?_; conv => whnf) | (refine br_f (by assumption) ?_; conv => whnf) | (refine get_of (by assumption) ?_; conv => whnf) | (refine get_map (by assumption) ?_; conv => whnf) | (refine draw_lex hE ?_ ?_; decide +kernel; conv => whnf) | (refine draw_any hE [⟨1, [(0, none), (1, none), (2, none), (3, none), (4, none), (5, some 0)], some 6, [], [[]]⟩] ?_ ?_; decide +kernel; conv => whnf) | (refine brd (fun h => ?_) (fun h => ?_) <;> conv => whnf) | (refine br (fun h => ?_) (fun h => ?_) <;> conv => whnf) | (refine ret_now hE ?_; conv => whnf) | (intro hlen; conv => whnf) | (refine seg_here ?_; conv => whnf) | (refine both ?_ ?_ <;> conv => whnf))
    all_goals refine hret_up (up_freeze 3 (z := 3) (els := [.agg (exG now)]) rfl ⟨⟨trivial, trivial, trivial, trivial⟩, trivial⟩ (up_here (hret_now hE ?_)))
    all_goals conv => whnf
    all_goals exact ⟨rfl, rfl, rfl, rfl⟩
  | some a =>
    have hj := joined_walk 3 a now (ha a rfl) hn
    have hf : flu (some a) now = jnd 3 a now := rfl
    rw [hf]
    conv => whnf
    repeat' (first | (refine brd_t (by first | assumption | omega) ?_; conv => whnf) | (refine brd_f (by first | assumption | omega) ?_; conv => whnf) | (refine ask (by first | assumption | omega) ?_; conv => whnf) | (refine fit64 (by omega) ?_; conv => whnf) | (refine fit (by simp only [kmin, kmax]; omega) ?_; conv => whnf) | (refine br_t (by assumption) ?_; conv => whnf) | (refine br_f (by assumption) ?_; conv => whnf) | (refine get_of (by assumption) ?_; conv => whnf) | (refine get_map (by assumption) ?_; conv => whnf) | (refine call_eq (hj) hC hasBody_47 ?_ ?_ ?_; kernel_rfl; kernel_rfl; conv => whnf) | (refine callq_eq (hj) hC hasBody_47 ?_ ?_ ?_; kernel_rfl; kernel_rfl; conv => whnf) | (refine draw_lex hE ?_ ?_; decide +kernel; conv => whnf) | (refine draw_any hE [⟨1, [(0, none), (1, none), (2, none), (3, none), (4, none), (5, some 0)], some 6, [], [[]]⟩] ?_ ?_; decide +kernel; conv => whnf) | (refine brd (fun h => ?_) (fun h => ?_) <;> conv => whnf) | (refine br (fun h => ?_) (fun h => ?_) <;> conv => whnf) | (refine ret_now hE ?_; conv => whnf) | (intro hlen; conv => whnf) | (refine seg_here ?_; conv => whnf) | (refine both ?_ ?_ <;> conv => whnf))
    all_goals refine hret_up (up_freeze 3 (z := 3) (els := [.agg (exG (jnd 3 a now))]) rfl ⟨⟨trivial, trivial, trivial, trivial⟩, trivial⟩ (up_here (hret_now hE ?_)))
    all_goals conv => whnf
    all_goals exact ⟨rfl, rfl, rfl, rfl⟩

/-! ### How much the document's reader makes -/
def szO : Option Ex → Nat
  | none => 0
  | some a => szE a
theorem norm_szP {k : Int} (hk : k = 2 ∨ k = 3) (ps : List Ex) : szE (norm k ps) ≤ szEL ps + 4 := norm_sz k ps
theorem jnd_sz (k : Int) (a b : Ex) : szE (jnd k a b) ≤ szE a + szE b + 4 := by
  have h1 := spl_sz k a
  have h2 := spl_sz k b
  have h3 := norm_sz k (spl k a ++ spl k b)
  rw [szEL_app] at h3
  unfold jnd
  omega
theorem flu_sz (all : Option Ex) (now : Ex) : szE (flu all now) ≤ szO all + szE now + 4 := by
  cases all with
  | none => simp only [flu, szO]; omega
  | some a => exact jnd_sz 3 a now
theorem szE_void : szE (.mk 2 0 []) = 4 := by rw [szE_mk]; simp [szEL_sum]
def DSz (g : List UInt8 → DR) (r : List UInt8) : Prop := ∀ x t, g r = some (x, t) → szE x + 16 * t.length ≤ 16 * r.length + 16 ∧ t <:+ r
theorem suf_suffix : ∀ (s : List UInt8) (x : Ex), (suf x s).2 <:+ s
  | [], x => by simp [suf]
  | c :: r, x => by
    unfold suf
    split
    · exact (suf_suffix r _).trans (List.suffix_cons c r)
    · exact List.suffix_refl _
theorem baseD_sz {g : List UInt8 → DR} {c : UInt8} {r : List UInt8} (h : DSz g r) {x : Ex} {t : List UInt8} (e : baseD g c r = some (x, t)) : szE x + 16 * t.length ≤ 16 * r.length + 4 ∧ t <:+ r := by
  unfold baseD at e
  split at e
  · cases e
    rw [szE_mk]; simp [szEL_sum]; omega
  · split at e
    · split at e
      · cases e
      · cases e
      · rename_i y d s' hg
        cases e
        obtain ⟨h1, h2⟩ := h _ _ hg
        simp only [List.length_cons] at h1
        exact ⟨by omega, (List.suffix_cons _ _).trans h2⟩
    · cases e
theorem itemD_sz {g : List UInt8 → DR} {c : UInt8} {r : List UInt8} (h : DSz g r) {x : Ex} {t : List UInt8} (e : baseD g c r = some (x, t)) : szE (suf x t).1 + 16 * (suf x t).2.length ≤ 16 * r.length + 4 ∧ (suf x t).2 <:+ r := by
  obtain ⟨h1, h2⟩ := baseD_sz h e
  have h3 := suf_sz t x
  exact ⟨by omega, (suf_suffix t x).trans h2⟩
theorem runD_sz {g : List UInt8 → DR} : ∀ (n : Nat) (s : List UInt8) (now : Ex) (all : Option Ex), (∀ r : List UInt8, r.length < s.length → DSz g r) → ∀ x t, runD g n s now all = some (x, t) → szE x + 16 * t.length ≤ szE now + szO all + 16 * s.length + 4 ∧ t <:+ s
  | 0, s, now, all, _, x, t, e => by
    rw [runD] at e
    cases e
    have := flu_sz all now
    exact ⟨by omega, List.suffix_refl _⟩
  | n + 1, [], now, all, _, x, t, e => by
    rw [runD] at e
    cases e
    have := flu_sz all now
    exact ⟨by omega, List.suffix_refl _⟩
  | n + 1, c :: r, now, all, hg, x, t, e => by
    rw [runD] at e
    split at e
    · cases e
      have := flu_sz all now
      exact ⟨by omega, List.suffix_refl _⟩
    · split at e
      · obtain ⟨h1, h2⟩ := runD_sz n r _ _ (fun q hq => hg q (by simp only [List.length_cons]; omega)) x t e
        have h3 := flu_sz all now
        rw [szE_void] at h1
        rw [show szO (some (flu all now)) = szE (flu all now) from rfl] at h1
        simp only [List.length_cons]
        exact ⟨by omega, h2.trans (List.suffix_cons c r)⟩
      · split at e
        · cases e
        · rename_i y u hb
          obtain ⟨h3, h4⟩ := itemD_sz (hg r (by simp)) hb
          have hl := h4.length_le
          obtain ⟨h1, h2⟩ := runD_sz n _ _ _ (fun q hq => hg q (by simp only [List.length_cons]; omega)) x t e
          have h5 := jnd_sz 2 now (suf y u).1
          simp only [List.length_cons]
          exact ⟨by omega, (h2.trans h4).trans (List.suffix_cons c r)⟩
theorem dalt_sz : ∀ (n : Nat) (s : List UInt8), DSz (dAlt n) s
  | 0, s => fun x t e => by cases e
  | n + 1, s => fun x t e => by
    have h := runD_sz s.length s (.mk 2 0 []) none (fun r _ => dalt_sz n r) x t e
    rw [szE_void] at h
    simp only [szO] at h
    exact ⟨by omega, h.2⟩
end Go.Proofs.Yteappcclfjafeaa
