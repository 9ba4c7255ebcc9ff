/- The document's TreeBuilt, walked. No conditions. -/
import Derived.Test.YtbdogoccjcifnaaDoorTrE
import Derived.Test.YtbdogoccjcifnaaDoorTrC
/-! The document's TreeBuilt, walked. No conditions. -/
set_option linter.unusedSimpArgs false
set_option linter.unusedVariables false
set_option maxRecDepth 100000
namespace Go.Proofs.YtbdogoccjcifnaaDoor
open Go.RowKit

def dU (l : List Tk) (k : Nat) (mute : List UInt8) : List (Nat × V) := [(4, .ptr 0 0 0), (5, .str mute), (6, .fn 12 [.ptr 0 0 0]), (7, .fn 13 [.ptr 0 0 0]), (8, .fn 14 [.ptr 0 0 0]), (26, .lst (l.map tokA)), (27, .int .i64 (l.map tokA).length), (28, .int .i64 k)]
def hD (A : List Rc) (o2 o3 : Option Ob) : List (Option Ob) := [some (.row 1 [.sl 1 0 A.length]), some (.row 7 (A.map flV)), o2, o3, none]
def dS (l : List Tk) (k : Nat) (S : Bs) : ES := ⟨200, dU l k S.mute, hD S.A none none⟩
def dT (l : List Tk) (k : Nat) (t : Tk) (A : List Rc) (mute : List UInt8) (u : List (Nat × V)) : ES := ⟨200, dU l k mute ++ (10, .ptr 2 0 0) :: u, hD A (some (.row 5 [tokL t t.self])) none⟩
theorem dT_drop {C : Ctx} {K : ES → Prop} (ks : List Nat) {l : List Tk} {k : Nat} {t : Tk} {A : List Rc} {mute : List UInt8} {u u' : List (Nat × V)} {o3 : Ob} {h : List (Option Ob)} (hh : h = hD A (some (.row 5 [tokL t t.self])) (some o3))
    (hu : ((keepU ks u).map fun p => (p.1, p.2.kill 3)) = dU l k mute ++ (10, .ptr 2 0 0) :: u') (hk : K (dT l k t A mute u')) : UpE C K ⟨200, u, h⟩ := by
  subst hh
  refine up_to' ks (up_drop 3 (up_eq (up_here hk) ?_))
  rw [hu]
  unfold dT hD
  simp only [killH, Ob.kill, killL, tokL_kill, kill_nrL 3 (fls_nr A)]
  simp [V.kill]
theorem lastI_top (A : List Rc) : lastI (fun r => r.opn) A = (topI A : Int) - 1 := by
  unfold lastI topI
  cases lastIdx (fun r => r.opn) A with
  | none => rfl
  | some j => simp only; omega
theorem nlL_append' : ∀ a b : List V, nlL (a ++ b) = nlL a ++ nlL b
  | [], b => by simp [nlL]
  | x :: a, b => by simp [nlL, nlL_append' a b]
theorem nl_fls : ∀ A : List Rc, nlL (A.map flV) = A.map flV
  | [] => by simp [nlL]
  | r :: A => by simp [nlL, nl_fls A, flV, V.nl, nl_atts]
theorem lastIdx_app {α : Type} (p : α → Bool) (x : α) : ∀ l : List α, lastIdx p (l ++ [x]) = if p x = true then some l.length else lastIdx p l
  | [] => by simp [lastIdx]
  | y :: l => by
    simp only [List.cons_append, lastIdx, lastIdx_app p x l, List.length_cons]
    by_cases hp : p x = true
    · simp [hp]
    · simp [hp]
theorem lastI_take {p : Rc → Bool} {A : List Rc} {q : Nat} {r : Rc} (hr : A[q]? = some r) : lastI p (A.take (q + 1)) = if p r = true then (q : Int) else lastI p (A.take q) := by
  have hlt := (List.getElem?_eq_some_iff.1 hr).1
  rw [List.take_add_one, hr]
  unfold lastI
  simp only [Option.toList_some]
  rw [lastIdx_app]
  by_cases hp : p r = true
  · rw [if_pos hp, if_pos hp]
    simp only [List.length_take]
    omega
  · rw [if_neg hp, if_neg hp]
theorem dS_drop {C : Ctx} {K : ES → Prop} (ks : List Nat) {l : List Tk} {k : Nat} {t : Tk} {A : List Rc} {mute : List UInt8} {u : List (Nat × V)} (hu : ((keepU ks u).map fun p => (p.1, p.2.kill 2)) = dU l k mute) (hk : K (dS l k ⟨A, mute⟩)) : UpE C K ⟨200, u, hD A (some (.row 5 [tokL t t.self])) none⟩ := by
  refine up_to' ks (up_drop 2 (up_eq (up_here hk) ?_))
  rw [hu]
  unfold dS hD
  simp only [killH, Ob.kill, killL, tokL_kill, kill_nrL 2 (fls_nr A)]
  simp [V.kill]
/-- A new element behind the list: its attributes are frozen. -/
theorem dT_app {C : Ctx} {K : ES → Prop} (ks : List Nat) {l : List Tk} {k : Nat} {t : Tk} {A : List Rc} {mute : List UInt8} {u : List (Nat × V)} {X Y : List V} {N m : Nat} {o6 : Option Ob} {o7 : Ob} {r : Rc} (hY : Y = r.atts.map attA)
    (hX : X = A.map flV ++ [.agg [.int .i64 ((r.inn : Int) - 1), .str r.name, .sl 5 0 m, .str r.text, .nils, .bool r.opn, .bool (!r.elem)]]) (hN : N = A.length + 1) (hm : m = r.atts.length)
    (hu : ((keepU ks u).map fun p => (p.1, p.2.kill 7)) = dU l k mute ++ [(10, .ptr 2 0 0)]) (hk : K (dT l k t (A ++ [r]) mute [])) :
    UpE C K ⟨200, u, [some (.row 1 [.sl 1 0 N]), some (.row 7 X), some (.row 5 [tokL t t.self]), none, none, some (.row 2 Y), o6, some o7]⟩ := by
  subst hX; subst hN; subst hm; subst hY
  have hna := nr_atts r.atts
  refine up_to' ks (up_drop 7 (up_eq (σ' := ⟨200, dU l k mute ++ [(10, .ptr 2 0 0)], [some (.row 1 [.sl 1 0 (A.length + 1)]), some (.row 7 (A.map flV ++ [.agg [.int .i64 ((r.inn : Int) - 1), .str r.name, .sl 5 0 r.atts.length, .str r.text, .nils, .bool r.opn, .bool (!r.elem)]])), some (.row 5 [tokL t t.self]), none, none, some (.row 2 (r.atts.map attA)), o6.map (Ob.kill 7), none]⟩) ?_ ?_))
  rotate_left
  · rw [hu]
    congr 1
    have e6 : killH 7 [o6, some o7] = [o6.map (Ob.kill 7), some (o7.kill 7)] := by cases o6 <;> rfl
    show (killH 7 ([some (.row 1 [.sl 1 0 (A.length + 1)]), some (.row 7 (A.map flV ++ [.agg [.int .i64 ((r.inn : Int) - 1), .str r.name, .sl 5 0 r.atts.length, .str r.text, .nils, .bool r.opn, .bool (!r.elem)]])), some (.row 5 [tokL t t.self]), none, none, some (.row 2 (r.atts.map attA))] ++ [o6, some o7])).set 7 none = _
    rw [killH_map, List.map_append, ← killH_map, ← killH_map, e6]
    simp only [killH, Ob.kill, killL, tokL_kill, kill_nrL 7 hna, killL_app, kill_nrL 7 (fls_nr A)]
    simp [V.kill, killL]
  refine up_drop 6 (up_eq (σ' := ⟨200, dU l k mute ++ [(10, .ptr 2 0 0)], [some (.row 1 [.sl 1 0 (A.length + 1)]), some (.row 7 (A.map flV ++ [.agg [.int .i64 ((r.inn : Int) - 1), .str r.name, .sl 5 0 r.atts.length, .str r.text, .nils, .bool r.opn, .bool (!r.elem)]])), some (.row 5 [tokL t t.self]), none, none, some (.row 2 (r.atts.map attA)), none, none]⟩) ?_ ?_)
  rotate_left
  · congr 1
    show (killH 6 ([some (.row 1 [.sl 1 0 (A.length + 1)]), some (.row 7 (A.map flV ++ [.agg [.int .i64 ((r.inn : Int) - 1), .str r.name, .sl 5 0 r.atts.length, .str r.text, .nils, .bool r.opn, .bool (!r.elem)]])), some (.row 5 [tokL t t.self]), none, none, some (.row 2 (r.atts.map attA))] ++ [o6.map (Ob.kill 7), none])).set 6 none = _
    rw [killH_map, List.map_append, ← killH_map]
    simp only [killH, Ob.kill, killL, tokL_kill, kill_nrL 6 hna, killL_app, kill_nrL 6 (fls_nr A)]
    simp [V.kill, killL]
  refine up_freeze 5 (z := 2) (els := r.atts.map attA) rfl hna (up_eq (σ' := ⟨200, dU l k mute ++ [(10, .ptr 2 0 0)], [some (.row 1 [.sl 1 0 (A.length + 1)]), some (.row 7 (A.map flV ++ [.agg [.int .i64 ((r.inn : Int) - 1), .str r.name, .lst (r.atts.map attA), .str r.text, .nils, .bool r.opn, .bool (!r.elem)]])), some (.row 5 [tokL t t.self]), none, none, none, none, none]⟩) ?_ ?_)
  rotate_left
  · congr 1
    simp only [frzH, Ob.frz, frzL, tokL_frz, frzL_app, frz_nrL 5 _ (fls_nr A)]
    simp [V.frz, frzL]
    exact List.take_of_length_le (by simp)
  refine up_nl 1 (z := 7) rfl (up_trimE (up_spare (up_spare (up_eq (up_here hk) ?_))))
  have e : nlL (A.map flV ++ [.agg [.int .i64 ((r.inn : Int) - 1), .str r.name, .lst (r.atts.map attA), .str r.text, .nils, .bool r.opn, .bool (!r.elem)]]) = (A ++ [r]).map flV := by
    rw [nlL_append', List.map_append]
    congr 1
    · exact nl_fls A
    · simp [nlL, V.nl, nl_atts, flV]
  show (⟨200, dU l k mute ++ [(10, .ptr 2 0 0)], trimH [some (.row 1 [.sl 1 0 (A.length + 1)]), some (.row 7 (nlL (A.map flV ++ [.agg [.int .i64 ((r.inn : Int) - 1), .str r.name, .lst (r.atts.map attA), .str r.text, .nils, .bool r.opn, .bool (!r.elem)]]))), some (.row 5 [tokL t t.self]), none, none, none, none, none] ++ [none] ++ [none]⟩ : ES) = _
  rw [e]
  unfold dT hD
  rw [List.length_append]
  rfl
/-- A new text behind the list. -/
theorem dT_app2 {C : Ctx} {K : ES → Prop} (ks : List Nat) {l : List Tk} {k : Nat} {t : Tk} {A : List Rc} {mute : List UInt8} {u : List (Nat × V)} {X : List V} {N : Nat} {o3 : Ob} {r : Rc}
    (hX : X = A.map flV ++ [.agg [.int .i64 ((r.inn : Int) - 1), .str r.name, .nils, .str r.text, .nils, .bool r.opn, .bool (!r.elem)]]) (hN : N = A.length + 1) (hm : r.atts = [])
    (hu : ((keepU ks u).map fun p => (p.1, p.2.kill 3)) = dU l k mute ++ [(10, .ptr 2 0 0)]) (hk : K (dT l k t (A ++ [r]) mute [])) :
    UpE C K ⟨200, u, [some (.row 1 [.sl 1 0 N]), some (.row 7 X), some (.row 5 [tokL t t.self]), some o3, none]⟩ := by
  subst hX; subst hN
  have e : nlL (A.map flV ++ [.agg [.int .i64 ((r.inn : Int) - 1), .str r.name, .nils, .str r.text, .nils, .bool r.opn, .bool (!r.elem)]]) = (A ++ [r]).map flV := by
    rw [nlL_append', List.map_append]
    congr 1
    · exact nl_fls A
    · simp [nlL, V.nl, flV, hm]
  refine up_nl 1 (z := 7) rfl ?_
  refine up_eq (σ' := ⟨200, u, [some (.row 1 [.sl 1 0 (A.length + 1)]), some (.row 7 (nlL (A.map flV ++ [.agg [.int .i64 ((r.inn : Int) - 1), .str r.name, .nils, .str r.text, .nils, .bool r.opn, .bool (!r.elem)]]))), some (.row 5 [tokL t t.self]), some o3, none]⟩) ?_ rfl
  rw [e]
  refine up_to' ks (up_drop 3 (up_eq (up_here hk) ?_))
  rw [hu]
  unfold dT hD
  simp only [killH, Ob.kill, killL, tokL_kill, kill_nrL 3 (fls_nr (A ++ [r]))]
  simp [V.kill]
def builtD (l : List Tk) : V := match buildB l with | .inl c => .tup [.lst [], .int .i64 c] | .inr A => .tup [.lst (nodesL (treeD A (A.length + 2) 0)), .int .i64 0]
def factD (l : List Tk) (k : Nat) (S : Bs) : Prop := k ≤ l.length ∧ Wf S.A ∧ S.A.length ≤ 150 ∧ totX S.A + totT (l.drop k) ≤ totT l ∧ runB l ⟨[], []⟩ = runB (l.drop k) S
set_option maxHeartbeats 16000000 in
theorem tree_built (l : List Tk) (hx : totT l ≤ 1048576) (hat : ∀ t ∈ l, t.attrs.length ≤ 1048576) : Fn1 Tryd.prog 5 [.lst (l.map tokA)] (fun r => r = builtD l) := by
  have hlm : (l.map tokA).length = l.length := by simp
  refine fn1_nl ?_
  by_cases h300 : 300 < l.length
  · have hb : builtD l = .tup [.lst [], .int .i64 1] := by unfold builtD buildB; rw [if_pos h300]
    rw [hb]
    refine fn1E (T := Tryd.tt) Tryd.func5 rfl tt_all follows_all ?_ ?_ fun C hC hE => ?_
    · kernel_rfl
    · exact Nat.le_of_ble_eq_true (by kernel_rfl)
    conv => whnf
    repeat' (first | (refine brd_t (by first | assumption | omega) ?_; conv => whnf) | (refine brd_f (by first | assumption | omega) ?_; conv => whnf) | (refine ask (by first | assumption | omega) ?_; conv => whnf) | (refine fit64 (by omega) ?_; conv => whnf) | (refine fit (by simp only [kmin, kmax]; omega) ?_; conv => whnf) | (refine br_t (by assumption) ?_; conv => whnf) | (refine br_f (by assumption) ?_; conv => whnf) | (refine get_of (by assumption) ?_; conv => whnf) | (refine get_map (by assumption) ?_; conv => whnf) | (refine draw_lex hE ?_ ?_; decide +kernel; conv => whnf) | (refine draw_any hE [⟨3, [(0, none), (1, none), (2, none), (3, none), (4, none), (5, none), (8, none), (9, none), (10, none), (6, some 0), (7, none), (11, none), (12, none), (13, none), (14, some 1), (15, none), (16, none), (17, none), (18, none), (19, some 2)], some 20, [], [[]], []⟩, ⟨0, [], some 21, [], [[]], []⟩] ?_ ?_; decide +kernel; conv => whnf) | (refine draw_any hE [⟨0, [(0, none), (1, none), (2, none), (3, none), (4, none), (5, none), (6, none), (7, none), (8, none), (9, none), (10, none), (11, none)], some 12, [], [[]], []⟩] ?_ ?_; decide +kernel; conv => whnf) | (refine brd (fun h => ?_) (fun h => ?_) <;> conv => whnf) | (refine br (fun h => ?_) (fun h => ?_) <;> conv => whnf) | (refine ret_now hE ?_; conv => whnf) | (intro hlen; conv => whnf) | (refine seg_here ?_; conv => whnf) | (refine both ?_ ?_ <;> conv => whnf))
    exact ⟨rfl, by simp [V.nl, nlL]⟩
  have hbl : buildB l = runB l ⟨[], []⟩ := if_neg h300
  refine fn1E (T := Tryd.tt) Tryd.func5 rfl tt_all follows_all ?_ ?_ fun C hC hE => ?_
  · kernel_rfl
  · exact Nat.le_of_ble_eq_true (by kernel_rfl)
  conv => whnf
  repeat' (first | (refine brd_t (by first | assumption | omega) ?_; conv => whnf) | (refine brd_f (by first | assumption | omega) ?_; conv => whnf) | (refine ask (by first | assumption | omega) ?_; conv => whnf) | (refine fit64 (by omega) ?_; conv => whnf) | (refine fit (by simp only [kmin, kmax]; omega) ?_; conv => whnf) | (refine br_t (by assumption) ?_; conv => whnf) | (refine br_f (by assumption) ?_; conv => whnf) | (refine get_of (by assumption) ?_; conv => whnf) | (refine get_map (by assumption) ?_; conv => whnf) | (refine draw_lex hE ?_ ?_; decide +kernel; conv => whnf) | (refine draw_any hE [⟨3, [(0, none), (1, none), (2, none), (3, none), (4, none), (5, none), (8, none), (9, none), (10, none), (6, some 0), (7, none), (11, none), (12, none), (13, none), (14, some 1), (15, none), (16, none), (17, none), (18, none), (19, some 2)], some 20, [], [[]], []⟩, ⟨0, [], some 21, [], [[]], []⟩] ?_ ?_; decide +kernel; conv => whnf) | (refine draw_any hE [⟨0, [(0, none), (1, none), (2, none), (3, none), (4, none), (5, none), (6, none), (7, none), (8, none), (9, none), (10, none), (11, none)], some 12, [], [[]], []⟩] ?_ ?_; decide +kernel; conv => whnf) | (refine brd (fun h => ?_) (fun h => ?_) <;> conv => whnf) | (refine br (fun h => ?_) (fun h => ?_) <;> conv => whnf) | (refine ret_now hE ?_; conv => whnf) | (intro hlen; conv => whnf) | (refine seg_here ?_; conv => whnf) | (refine both ?_ ?_ <;> conv => whnf))
  refine LoopE.mk (awp_loopS (fun ((k, S) : Nat × Bs) => dS l k S) (fun (k, S) => factD l k S) (fun (k, _) => l.length - k) (0, ⟨[], []⟩) ?_ ⟨Nat.zero_le _, Wf.nil, by simp, by simp [totX], by simp⟩ ?_)
  · refine up_ownf 0 7 (x := .nils) (x' := .sl 1 0 0) rfl (ownC_at 1 [] []) rfl (up_spare (up_spare (up_spare (at_keep [4, 5, 6, 7, 8, 26, 27, 28] ?_))))
    rfl
  rintro ⟨k, S⟩ ⟨hk, hW, hA, hT, hR⟩
  by_cases hlt : k < l.length
  · obtain ⟨t, ht⟩ : ∃ t, l[k]? = some t := ⟨_, List.getElem?_eq_getElem hlt⟩
    have hdr := drop_at ht
    have hatt := hat t (List.mem_of_getElem? ht)
    have htt : totT (l.drop k) = t.text.length + totT (l.drop (k + 1)) := by rw [hdr]; simp [totT]
    rw [hdr, runB_cons] at hR
    have errK : stepB t S = none → builtD l = .tup [.lst [], .int .i64 3] := fun h => by
      rw [h] at hR
      unfold builtD
      rw [hbl, hR]
    have errS : ∀ S', stepB t S = some S' → 150 < S'.A.length → builtD l = .tup [.lst [], .int .i64 1] := fun S' h hl => by
      rw [h] at hR
      simp only at hR
      rw [if_pos hl] at hR
      unfold builtD
      rw [hbl, hR]
    have hnx : ∀ S', stepB t S = some S' → ¬ 150 < S'.A.length → factD l (k + 1) S' := fun S' h hl => by
      obtain ⟨w1, w2, w3⟩ := step_ok hW h
      rw [h] at hR
      simp only at hR
      rw [if_neg hl] at hR
      exact ⟨hlt, w1, by omega, by omega, hR⟩
    have big : ∀ n : Nat, (150 : Int) < n → 150 < n := fun n h => by omega
    have small : ∀ n : Nat, ¬ (150 : Int) < n → ¬ 150 < n := fun n h => by omega
    show AWp C _ _ (dS l k S).st
    refine awp_cut hE (fun σ => σ = ⟨200, dU l k S.mute ++ [(29, .bool true)], hD S.A none none⟩) (by kernel_rfl) ?_ fun hc1 σ1 e1 => ?_
    · conv => whnf
      repeat' (first | (refine brd_t (by first | assumption | omega) ?_; conv => whnf) | (refine brd_f (by first | assumption | omega) ?_; conv => whnf) | (refine ask (by first | assumption | omega) ?_; conv => whnf) | (refine fit64 (by omega) ?_; conv => whnf) | (refine fit (by simp only [kmin, kmax]; omega) ?_; conv => whnf) | (refine br_t (by assumption) ?_; conv => whnf) | (refine br_f (by assumption) ?_; conv => whnf) | (refine get_of (by assumption) ?_; conv => whnf) | (refine get_map (by assumption) ?_; conv => whnf) | (refine draw_lex hE ?_ ?_; decide +kernel; conv => whnf) | (refine draw_any hE [⟨3, [(0, none), (1, none), (2, none), (3, none), (4, none), (5, none), (8, none), (9, none), (10, none), (6, some 0), (7, none), (11, none), (12, none), (13, none), (14, some 1), (15, none), (16, none), (17, none), (18, none), (19, some 2)], some 20, [], [[]], []⟩, ⟨0, [], some 21, [], [[]], []⟩] ?_ ?_; decide +kernel; conv => whnf) | (refine draw_any hE [⟨0, [(0, none), (1, none), (2, none), (3, none), (4, none), (5, none), (6, none), (7, none), (8, none), (9, none), (10, none), (11, none)], some 12, [], [[]], []⟩] ?_ ?_; decide +kernel; conv => whnf) | (refine brd (fun h => ?_) (fun h => ?_) <;> conv => whnf) | (refine br (fun h => ?_) (fun h => ?_) <;> conv => whnf) | (refine ret_now hE ?_; conv => whnf) | (intro hlen; conv => whnf) | (refine seg_here ?_; conv => whnf) | (refine both ?_ ?_ <;> conv => whnf))
      exact up_at [4, 5, 6, 7, 8, 26, 27, 28, 29] rfl rfl
    subst e1
    refine awp_cut hE (fun σ => σ = dS l k S) hc1 ?_ fun hc2 σ2 e2 => ?_
    · conv => whnf
      exact up_at [4, 5, 6, 7, 8, 26, 27, 28] rfl rfl
    subst e2
    refine awp_cutA (fun σ => ∃ S', stepB t S = some S' ∧ ¬ 150 < S'.A.length ∧ σ = dS l k S') hc2 (fun hcx => ?_) fun hc3 σ3 e3 => ?_
    · refine awp_blockS ?_
      refine awp_cut hE (fun σ => σ = dT l k t S.A S.mute []) (codeOk_b hcx) ?_ fun hd1 σ4 e4 => ?_
      · conv => whnf
        repeat' (first | (refine brd_t (by first | assumption | omega) ?_; conv => whnf) | (refine brd_f (by first | assumption | omega) ?_; conv => whnf) | (refine ask (by first | assumption | omega) ?_; conv => whnf) | (refine fit64 (by omega) ?_; conv => whnf) | (refine fit (by simp only [kmin, kmax]; omega) ?_; conv => whnf) | (refine br_t (by assumption) ?_; conv => whnf) | (refine br_f (by assumption) ?_; conv => whnf) | (refine get_of (by assumption) ?_; conv => whnf) | (refine get_map (by assumption) ?_; conv => whnf) | (refine get_map ht ?_; conv => whnf) | (refine draw_lex hE ?_ ?_; decide +kernel; conv => whnf) | (refine draw_any hE [⟨3, [(0, none), (1, none), (2, none), (3, none), (4, none), (5, none), (8, none), (9, none), (10, none), (6, some 0), (7, none), (11, none), (12, none), (13, none), (14, some 1), (15, none), (16, none), (17, none), (18, none), (19, some 2)], some 20, [], [[]], []⟩, ⟨0, [], some 21, [], [[]], []⟩] ?_ ?_; decide +kernel; conv => whnf) | (refine draw_any hE [⟨0, [(0, none), (1, none), (2, none), (3, none), (4, none), (5, none), (6, none), (7, none), (8, none), (9, none), (10, none), (11, none)], some 12, [], [[]], []⟩] ?_ ?_; decide +kernel; conv => whnf) | (refine brd (fun h => ?_) (fun h => ?_) <;> conv => whnf) | (refine br (fun h => ?_) (fun h => ?_) <;> conv => whnf) | (refine ret_now hE ?_; conv => whnf) | (intro hlen; conv => whnf) | (refine seg_here ?_; conv => whnf) | (refine both ?_ ?_ <;> conv => whnf))
        exact up_at [4, 5, 6, 7, 8, 26, 27, 28, 10] rfl rfl
      subst e4
      refine awp_cutA (fun σ => ∃ S', stepB t S = some S' ∧ σ = dT l k t S'.A S'.mute []) hd1 (fun hcy => ?_) fun hd2 σ5 e5 => ?_
      · -- the switch
        refine awp_cut hE (fun σ => σ = dT l k t S.A S.mute [(33, .int .i64 t.kind)]) hcy ?_ fun hf1 σ6 e6 => ?_
        · conv => whnf
          repeat' (first | (refine brd_t (by first | assumption | omega) ?_; conv => whnf) | (refine brd_f (by first | assumption | omega) ?_; conv => whnf) | (refine ask (by first | assumption | omega) ?_; conv => whnf) | (refine fit64 (by omega) ?_; conv => whnf) | (refine fit (by simp only [kmin, kmax]; omega) ?_; conv => whnf) | (refine br_t (by assumption) ?_; conv => whnf) | (refine br_f (by assumption) ?_; conv => whnf) | (refine get_of (by assumption) ?_; conv => whnf) | (refine get_map (by assumption) ?_; conv => whnf) | (refine draw_lex hE ?_ ?_; decide +kernel; conv => whnf) | (refine draw_any hE [⟨3, [(0, none), (1, none), (2, none), (3, none), (4, none), (5, none), (8, none), (9, none), (10, none), (6, some 0), (7, none), (11, none), (12, none), (13, none), (14, some 1), (15, none), (16, none), (17, none), (18, none), (19, some 2)], some 20, [], [[]], []⟩, ⟨0, [], some 21, [], [[]], []⟩] ?_ ?_; decide +kernel; conv => whnf) | (refine draw_any hE [⟨0, [(0, none), (1, none), (2, none), (3, none), (4, none), (5, none), (6, none), (7, none), (8, none), (9, none), (10, none), (11, none)], some 12, [], [[]], []⟩] ?_ ?_; decide +kernel; conv => whnf) | (refine brd (fun h => ?_) (fun h => ?_) <;> conv => whnf) | (refine br (fun h => ?_) (fun h => ?_) <;> conv => whnf) | (refine ret_now hE ?_; conv => whnf) | (intro hlen; conv => whnf) | (refine seg_here ?_; conv => whnf) | (refine both ?_ ?_ <;> conv => whnf))
          exact up_at [4, 5, 6, 7, 8, 26, 27, 28, 10, 33] rfl rfl
        subst e6
        refine awp_blockS ?_
        by_cases hk1 : t.kind = 1
        · -- a start
          have hstp : stepB t S = some (startB t S) := if_pos hk1
          have hSB : startB t S = if 10 ≤ cntO (liA t (blkA t S.A)) then ⟨liA t (blkA t S.A), if t.self = false ∧ t.name ∈ rawT then t.name else []⟩ else ⟨liA t (blkA t S.A) ++ [newE t (liA t (blkA t S.A))], []⟩ := rfl
          rw [hstp]
          rw [hSB]
          refine awp_cut hE (fun σ => σ = dT l k t S.A S.mute [(34, .bool true)]) (codeOk_b hf1) ?_ fun hg1 σ7 e7 => ?_
          · conv => whnf
            repeat' (first | (refine brd_t (by first | assumption | omega) ?_; conv => whnf) | (refine brd_f (by first | assumption | omega) ?_; conv => whnf) | (refine ask (by first | assumption | omega) ?_; conv => whnf) | (refine fit64 (by omega) ?_; conv => whnf) | (refine fit (by simp only [kmin, kmax]; omega) ?_; conv => whnf) | (refine br_t (by assumption) ?_; conv => whnf) | (refine br_f (by assumption) ?_; conv => whnf) | (refine get_of (by assumption) ?_; conv => whnf) | (refine get_map (by assumption) ?_; conv => whnf) | (refine draw_lex hE ?_ ?_; decide +kernel; conv => whnf) | (refine draw_any hE [⟨3, [(0, none), (1, none), (2, none), (3, none), (4, none), (5, none), (8, none), (9, none), (10, none), (6, some 0), (7, none), (11, none), (12, none), (13, none), (14, some 1), (15, none), (16, none), (17, none), (18, none), (19, some 2)], some 20, [], [[]], []⟩, ⟨0, [], some 21, [], [[]], []⟩] ?_ ?_; decide +kernel; conv => whnf) | (refine draw_any hE [⟨0, [(0, none), (1, none), (2, none), (3, none), (4, none), (5, none), (6, none), (7, none), (8, none), (9, none), (10, none), (11, none)], some 12, [], [[]], []⟩] ?_ ?_; decide +kernel; conv => whnf) | (refine brd (fun h => ?_) (fun h => ?_) <;> conv => whnf) | (refine br (fun h => ?_) (fun h => ?_) <;> conv => whnf) | (refine ret_now hE ?_; conv => whnf) | (intro hlen; conv => whnf) | (refine seg_here ?_; conv => whnf) | (refine both ?_ ?_ <;> conv => whnf))
            exact up_at [4, 5, 6, 7, 8, 26, 27, 28, 10, 34] rfl rfl
          subst e7
          refine awp_condS (b := true) rfl ?_
          refine awp_cut hE (fun σ => σ = dT l k t S.A [] []) (codeOk_1 hg1) ?_ fun hg2 σ8 e8 => ?_
          · conv => whnf
            repeat' (first | (refine brd_t (by first | assumption | omega) ?_; conv => whnf) | (refine brd_f (by first | assumption | omega) ?_; conv => whnf) | (refine ask (by first | assumption | omega) ?_; conv => whnf) | (refine fit64 (by omega) ?_; conv => whnf) | (refine fit (by simp only [kmin, kmax]; omega) ?_; conv => whnf) | (refine br_t (by assumption) ?_; conv => whnf) | (refine br_f (by assumption) ?_; conv => whnf) | (refine get_of (by assumption) ?_; conv => whnf) | (refine get_map (by assumption) ?_; conv => whnf) | (refine draw_lex hE ?_ ?_; decide +kernel; conv => whnf) | (refine draw_any hE [⟨3, [(0, none), (1, none), (2, none), (3, none), (4, none), (5, none), (8, none), (9, none), (10, none), (6, some 0), (7, none), (11, none), (12, none), (13, none), (14, some 1), (15, none), (16, none), (17, none), (18, none), (19, some 2)], some 20, [], [[]], []⟩, ⟨0, [], some 21, [], [[]], []⟩] ?_ ?_; decide +kernel; conv => whnf) | (refine draw_any hE [⟨0, [(0, none), (1, none), (2, none), (3, none), (4, none), (5, none), (6, none), (7, none), (8, none), (9, none), (10, none), (11, none)], some 12, [], [[]], []⟩] ?_ ?_; decide +kernel; conv => whnf) | (refine brd (fun h => ?_) (fun h => ?_) <;> conv => whnf) | (refine br (fun h => ?_) (fun h => ?_) <;> conv => whnf) | (refine ret_now hE ?_; conv => whnf) | (intro hlen; conv => whnf) | (refine seg_here ?_; conv => whnf) | (refine both ?_ ?_ <;> conv => whnf))
            exact up_at [4, 5, 6, 7, 8, 26, 27, 28, 10] rfl rfl
          subst e8
          refine awp_cut hE (fun σ => σ = dT l k t (blkA t S.A) [] []) hg2 ?_ fun hg3 σ9 e9 => ?_
          · conv => whnf
            repeat' (first | (refine brd_t (by first | assumption | omega) ?_; conv => whnf) | (refine brd_f (by first | assumption | omega) ?_; conv => whnf) | (refine ask (by first | assumption | omega) ?_; conv => whnf) | (refine fit64 (by omega) ?_; conv => whnf) | (refine fit (by simp only [kmin, kmax]; omega) ?_; conv => whnf) | (refine br_t (by assumption) ?_; conv => whnf) | (refine br_f (by assumption) ?_; conv => whnf) | (refine get_of (by assumption) ?_; conv => whnf) | (refine get_map (by assumption) ?_; conv => whnf) | (refine call_lend 3 (one_of t.name blkL) hC hasBody_15 rfl ?_ rfl rfl rfl rfl ?_; exact ⟨trivial, trivial, trivial, trivial, trivial, trivial, trivial, trivial, trivial, trivial⟩; conv => whnf) | (refine call_lst S.A [112] (by omega) hC (by kernel_rfl) rfl rfl ?_; conv => whnf) | (refine call_shut S.A [112] (by omega) hE hC [4, 5, 6, 7, 8, 26, 27, 28, 10] rfl rfl rfl ?_; conv => whnf) | (refine draw_lex hE ?_ ?_; decide +kernel; conv => whnf) | (refine draw_any hE [⟨3, [(0, none), (1, none), (2, none), (3, none), (4, none), (5, none), (8, none), (9, none), (10, none), (6, some 0), (7, none), (11, none), (12, none), (13, none), (14, some 1), (15, none), (16, none), (17, none), (18, none), (19, some 2)], some 20, [], [[]], []⟩, ⟨0, [], some 21, [], [[]], []⟩] ?_ ?_; decide +kernel; conv => whnf) | (refine draw_any hE [⟨0, [(0, none), (1, none), (2, none), (3, none), (4, none), (5, none), (6, none), (7, none), (8, none), (9, none), (10, none), (11, none)], some 12, [], [[]], []⟩] ?_ ?_; decide +kernel; conv => whnf) | (refine brd (fun h => ?_) (fun h => ?_) <;> conv => whnf) | (refine br (fun h => ?_) (fun h => ?_) <;> conv => whnf) | (refine ret_now hE ?_; conv => whnf) | (intro hlen; conv => whnf) | (refine seg_here ?_; conv => whnf) | (refine both ?_ ?_ <;> conv => whnf))
            · exact dT_drop [4, 5, 6, 7, 8, 26, 27, 28, 10] (A := blkA t S.A) (by rw [show blkA t S.A = shutO S.A (lastN S.A [112]) from if_pos (of_decide_eq_true (by assumption))]; rfl) rfl rfl
            · exact dT_drop [4, 5, 6, 7, 8, 26, 27, 28, 10] (A := blkA t S.A) (by rw [show blkA t S.A = S.A from if_neg (of_decide_eq_false (by assumption))]; rfl) rfl rfl
          subst e9
          have hA1 : (blkA t S.A).length = S.A.length := by unfold blkA; split; exact shutO_len _ _; rfl
          have hA1' : (blkA t S.A).length ≤ 150 := by omega
          have hW1 : Wf (blkA t S.A) := by unfold blkA; split; exact hW.shut _; exact hW
          generalize blkA t S.A = A1 at *
          refine awp_cut hE (fun σ => σ = dT l k t (liA t A1) [] []) hg3 ?_ fun hg4 σ10 e10 => ?_
          · have hno : ¬ liP t A1 → liA t A1 = A1 := fun h => if_neg h
            have hyes : liP t A1 → liA t A1 = shutO A1 (lastN A1 [108, 105]) := fun h => if_pos h
            have hgt : ∀ a b, lastI (isN b) A1 < lastI (isN a) A1 → fndP A1 b < fndP A1 a := fun a b h => (fnd_gt A1 a b).2 h
            have hgt' : ∀ a b, fndP A1 b < fndP A1 a → lastI (isN b) A1 < lastI (isN a) A1 := fun a b h => (fnd_gt A1 a b).1 h
            conv => whnf
            repeat' (first | (refine brd_t (by first | assumption | omega) ?_; conv => whnf) | (refine brd_f (by first | assumption | omega) ?_; conv => whnf) | (refine ask (by first | assumption | omega) ?_; conv => whnf) | (refine fit64 (by omega) ?_; conv => whnf) | (refine fit (by simp only [kmin, kmax]; omega) ?_; conv => whnf) | (refine br_t (by assumption) ?_; conv => whnf) | (refine br_f (by assumption) ?_; conv => whnf) | (refine get_of (by assumption) ?_; conv => whnf) | (refine get_map (by assumption) ?_; conv => whnf) | (refine call_lst A1 _ (by omega) hC (by kernel_rfl) rfl rfl ?_; conv => whnf) | (refine call_shut A1 [108, 105] (by omega) hE hC [4, 5, 6, 7, 8, 26, 27, 28, 10] rfl rfl rfl ?_; conv => whnf) | (refine draw_lex hE ?_ ?_; decide +kernel; conv => whnf) | (refine draw_any hE [⟨3, [(0, none), (1, none), (2, none), (3, none), (4, none), (5, none), (8, none), (9, none), (10, none), (6, some 0), (7, none), (11, none), (12, none), (13, none), (14, some 1), (15, none), (16, none), (17, none), (18, none), (19, some 2)], some 20, [], [[]], []⟩, ⟨0, [], some 21, [], [[]], []⟩] ?_ ?_; decide +kernel; conv => whnf) | (refine draw_any hE [⟨0, [(0, none), (1, none), (2, none), (3, none), (4, none), (5, none), (6, none), (7, none), (8, none), (9, none), (10, none), (11, none)], some 12, [], [[]], []⟩] ?_ ?_; decide +kernel; conv => whnf) | (refine brd (fun h => ?_) (fun h => ?_) <;> conv => whnf) | (refine br (fun h => ?_) (fun h => ?_) <;> conv => whnf) | (refine ret_now hE ?_; conv => whnf) | (intro hlen; conv => whnf) | (refine seg_here ?_; conv => whnf) | (refine both ?_ ?_ <;> conv => whnf))
            all_goals first
              | (refine up_at [4, 5, 6, 7, 8, 26, 27, 28, 10] ?_ rfl; rw [hyes ⟨by assumption, hgt _ _ (by assumption), hgt _ _ (by assumption)⟩]; rfl)
              | (refine up_at [4, 5, 6, 7, 8, 26, 27, 28, 10] ?_ rfl; rw [hno fun ⟨h1, h2, h3⟩ => by first | exact absurd h1 (by assumption) | exact absurd (hgt' _ _ h2) (by assumption) | exact absurd (hgt' _ _ h3) (by assumption)]; rfl)
              | trace_state
          subst e10
          have hA2 : (liA t A1).length = A1.length := by unfold liA; split; exact shutO_len _ _; rfl
          have hA2' : (liA t A1).length ≤ 150 := by omega
          have hW2 : Wf (liA t A1) := by unfold liA; split; exact hW1.shut _; exact hW1
          generalize liA t A1 = A2 at *
          refine awp_cut hE (fun σ => σ = dT l k t A2 [] [(11, .int .i64 0)]) hg4 ?_ fun hg5 σ11 e11 => ?_
          · conv => whnf
            repeat' (first | (refine brd_t (by first | assumption | omega) ?_; conv => whnf) | (refine brd_f (by first | assumption | omega) ?_; conv => whnf) | (refine ask (by first | assumption | omega) ?_; conv => whnf) | (refine fit64 (by omega) ?_; conv => whnf) | (refine fit (by simp only [kmin, kmax]; omega) ?_; conv => whnf) | (refine br_t (by assumption) ?_; conv => whnf) | (refine br_f (by assumption) ?_; conv => whnf) | (refine get_of (by assumption) ?_; conv => whnf) | (refine get_map (by assumption) ?_; conv => whnf) | (refine draw_lex hE ?_ ?_; decide +kernel; conv => whnf) | (refine draw_any hE [⟨3, [(0, none), (1, none), (2, none), (3, none), (4, none), (5, none), (8, none), (9, none), (10, none), (6, some 0), (7, none), (11, none), (12, none), (13, none), (14, some 1), (15, none), (16, none), (17, none), (18, none), (19, some 2)], some 20, [], [[]], []⟩, ⟨0, [], some 21, [], [[]], []⟩] ?_ ?_; decide +kernel; conv => whnf) | (refine draw_any hE [⟨0, [(0, none), (1, none), (2, none), (3, none), (4, none), (5, none), (6, none), (7, none), (8, none), (9, none), (10, none), (11, none)], some 12, [], [[]], []⟩] ?_ ?_; decide +kernel; conv => whnf) | (refine brd (fun h => ?_) (fun h => ?_) <;> conv => whnf) | (refine br (fun h => ?_) (fun h => ?_) <;> conv => whnf) | (refine ret_now hE ?_; conv => whnf) | (intro hlen; conv => whnf) | (refine seg_here ?_; conv => whnf) | (refine both ?_ ?_ <;> conv => whnf))
            exact up_at [4, 5, 6, 7, 8, 26, 27, 28, 10, 11] rfl rfl
          subst e11
          have hlm2 : (A2.map flV).length = A2.length := by simp
          -- how deep
          refine awp_cut hE (fun σ => σ = dT l k t A2 [] [(11, .int .i64 (cntO A2))]) hg5 ?_ fun hg6 σ12 e12 => ?_
          · conv => whnf
            repeat' (first | (refine brd_t (by first | assumption | omega) ?_; conv => whnf) | (refine brd_f (by first | assumption | omega) ?_; conv => whnf) | (refine ask (by first | assumption | omega) ?_; conv => whnf) | (refine fit64 (by omega) ?_; conv => whnf) | (refine fit (by simp only [kmin, kmax]; omega) ?_; conv => whnf) | (refine br_t (by assumption) ?_; conv => whnf) | (refine br_f (by assumption) ?_; conv => whnf) | (refine get_of (by assumption) ?_; conv => whnf) | (refine get_map (by assumption) ?_; conv => whnf) | (refine draw_lex hE ?_ ?_; decide +kernel; conv => whnf) | (refine draw_any hE [⟨3, [(0, none), (1, none), (2, none), (3, none), (4, none), (5, none), (8, none), (9, none), (10, none), (6, some 0), (7, none), (11, none), (12, none), (13, none), (14, some 1), (15, none), (16, none), (17, none), (18, none), (19, some 2)], some 20, [], [[]], []⟩, ⟨0, [], some 21, [], [[]], []⟩] ?_ ?_; decide +kernel; conv => whnf) | (refine draw_any hE [⟨0, [(0, none), (1, none), (2, none), (3, none), (4, none), (5, none), (6, none), (7, none), (8, none), (9, none), (10, none), (11, none)], some 12, [], [[]], []⟩] ?_ ?_; decide +kernel; conv => whnf) | (refine brd (fun h => ?_) (fun h => ?_) <;> conv => whnf) | (refine br (fun h => ?_) (fun h => ?_) <;> conv => whnf) | (refine ret_now hE ?_; conv => whnf) | (intro hlen; conv => whnf) | (refine seg_here ?_; conv => whnf) | (refine both ?_ ?_ <;> conv => whnf))
            refine loopE (fun q : Nat => dT l k t A2 [] [(11, .int .i64 (cntO (A2.take q))), (65, .sl 1 0 A2.length), (66, .int .i64 A2.length), (67, .int .i64 q)]) (fun q => q ≤ A2.length) (fun q => A2.length - q) 0 hE ?_ ?_ (Nat.zero_le _) ?_
            · kernel_rfl
            · exact up_at [4, 5, 6, 7, 8, 26, 27, 28, 10, 11, 65, 66, 67] rfl rfl
            intro q hq
            by_cases hql : q < A2.length
            · obtain ⟨r, hr⟩ : ∃ r, A2[q]? = some r := ⟨_, List.getElem?_eq_getElem hql⟩
              have hg : (A2.map flV)[0 + Int.toNat (q : Int)]? = some (.agg [.int .i64 ((r.inn : Int) - 1), .str r.name, .lst (r.atts.map attA), .str r.text, .lst [], .bool r.opn, .bool (!r.elem)]) := by
                rw [Nat.zero_add, Int.toNat_natCast, List.getElem?_map, hr]; rfl
              have hcn : cntO (A2.take (q + 1)) = cntO (A2.take q) + if r.opn = true then 1 else 0 := by
                rw [List.take_add_one, hr]
                unfold cntO
                rw [List.filter_append, List.length_append]
                cases hro : r.opn <;> simp [hro]
              have hcb : cntO (A2.take q) ≤ 150 := Nat.le_trans (List.length_filter_le _ _) (by rw [List.length_take]; omega)
              conv => whnf
              repeat' (first | (refine brd_t (by first | assumption | omega) ?_; conv => whnf) | (refine brd_f (by first | assumption | omega) ?_; conv => whnf) | (refine ask (by first | assumption | omega) ?_; conv => whnf) | (refine fit64 (by omega) ?_; conv => whnf) | (refine fit (by simp only [kmin, kmax]; omega) ?_; conv => whnf) | (refine br_t (by assumption) ?_; conv => whnf) | (refine br_f (by assumption) ?_; conv => whnf) | (refine get_of (by assumption) ?_; conv => whnf) | (refine get_map (by assumption) ?_; conv => whnf) | (refine get_of hg ?_; conv => whnf) | (refine draw_lex hE ?_ ?_; decide +kernel; conv => whnf) | (refine draw_any hE [⟨3, [(0, none), (1, none), (2, none), (3, none), (4, none), (5, none), (8, none), (9, none), (10, none), (6, some 0), (7, none), (11, none), (12, none), (13, none), (14, some 1), (15, none), (16, none), (17, none), (18, none), (19, some 2)], some 20, [], [[]], []⟩, ⟨0, [], some 21, [], [[]], []⟩] ?_ ?_; decide +kernel; conv => whnf) | (refine draw_any hE [⟨0, [(0, none), (1, none), (2, none), (3, none), (4, none), (5, none), (6, none), (7, none), (8, none), (9, none), (10, none), (11, none)], some 12, [], [[]], []⟩] ?_ ?_; decide +kernel; conv => whnf) | (refine brd (fun h => ?_) (fun h => ?_) <;> conv => whnf) | (refine br (fun h => ?_) (fun h => ?_) <;> conv => whnf) | (refine ret_now hE ?_; conv => whnf) | (intro hlen; conv => whnf) | (refine seg_here ?_; conv => whnf) | (refine both ?_ ?_ <;> conv => whnf))
              all_goals first
                | exact dT_drop [4, 5, 6, 7, 8, 26, 27, 28, 10, 11, 65, 66, 67] rfl rfl ⟨q + 1, hql, (show A2.length - (q + 1) < A2.length - q by omega), (by show _ = dT l k t A2 [] [(11, .int .i64 ((cntO (A2.take (q + 1)) : Nat) : Int)), (65, .sl 1 0 A2.length), (66, .int .i64 A2.length), (67, .int .i64 ((q + 1 : Nat) : Int))]; rw [hcn, if_pos (by assumption)]; rfl)⟩
                | exact dT_drop [4, 5, 6, 7, 8, 26, 27, 28, 10, 11, 65, 66, 67] rfl rfl ⟨q + 1, hql, (show A2.length - (q + 1) < A2.length - q by omega), (by show _ = dT l k t A2 [] [(11, .int .i64 ((cntO (A2.take (q + 1)) : Nat) : Int)), (65, .sl 1 0 A2.length), (66, .int .i64 A2.length), (67, .int .i64 ((q + 1 : Nat) : Int))]; rw [hcn, if_neg (by rw [show r.opn = false by assumption]; decide)]; rfl)⟩
            · obtain rfl : q = A2.length := by omega
              rw [List.take_length]
              conv => whnf
              repeat' (first | (refine brd_t (by first | assumption | omega) ?_; conv => whnf) | (refine brd_f (by first | assumption | omega) ?_; conv => whnf) | (refine ask (by first | assumption | omega) ?_; conv => whnf) | (refine fit64 (by omega) ?_; conv => whnf) | (refine fit (by simp only [kmin, kmax]; omega) ?_; conv => whnf) | (refine br_t (by assumption) ?_; conv => whnf) | (refine br_f (by assumption) ?_; conv => whnf) | (refine get_of (by assumption) ?_; conv => whnf) | (refine get_map (by assumption) ?_; conv => whnf) | (refine draw_lex hE ?_ ?_; decide +kernel; conv => whnf) | (refine draw_any hE [⟨3, [(0, none), (1, none), (2, none), (3, none), (4, none), (5, none), (8, none), (9, none), (10, none), (6, some 0), (7, none), (11, none), (12, none), (13, none), (14, some 1), (15, none), (16, none), (17, none), (18, none), (19, some 2)], some 20, [], [[]], []⟩, ⟨0, [], some 21, [], [[]], []⟩] ?_ ?_; decide +kernel; conv => whnf) | (refine draw_any hE [⟨0, [(0, none), (1, none), (2, none), (3, none), (4, none), (5, none), (6, none), (7, none), (8, none), (9, none), (10, none), (11, none)], some 12, [], [[]], []⟩] ?_ ?_; decide +kernel; conv => whnf) | (refine brd (fun h => ?_) (fun h => ?_) <;> conv => whnf) | (refine br (fun h => ?_) (fun h => ?_) <;> conv => whnf) | (refine ret_now hE ?_; conv => whnf) | (intro hlen; conv => whnf) | (refine seg_here ?_; conv => whnf) | (refine both ?_ ?_ <;> conv => whnf))
              exact up_at [4, 5, 6, 7, 8, 26, 27, 28, 10, 11] rfl rfl
          subst e12
          have hcb : cntO A2 ≤ 150 := Nat.le_trans (List.length_filter_le _ _) (by omega)
          have hst : ∀ m, (if t.self = false ∧ t.name ∈ rawT then t.name else []) = m → 10 ≤ cntO A2 → ∃ S' : Bs, some (if 10 ≤ cntO A2 then (⟨A2, if t.self = false ∧ t.name ∈ rawT then t.name else []⟩ : Bs) else ⟨A2 ++ [newE t A2], []⟩) = some S' ∧ dT l k t A2 m [] = dT l k t S'.A S'.mute [] := fun m hm h10 => ⟨⟨A2, m⟩, by rw [if_pos h10, hm], rfl⟩
          refine awp_cut hE (fun σ => ¬ 10 ≤ cntO A2 ∧ σ = dT l k t A2 [] []) hg6 ?_ fun hg7 σ13 e13 => ?_
          · conv => whnf
            repeat' (first | (refine brd_t (by first | assumption | omega) ?_; conv => whnf) | (refine brd_f (by first | assumption | omega) ?_; conv => whnf) | (refine ask (by first | assumption | omega) ?_; conv => whnf) | (refine fit64 (by omega) ?_; conv => whnf) | (refine fit (by simp only [kmin, kmax]; omega) ?_; conv => whnf) | (refine br_t (by assumption) ?_; conv => whnf) | (refine br_f (by assumption) ?_; conv => whnf) | (refine get_of (by assumption) ?_; conv => whnf) | (refine get_map (by assumption) ?_; conv => whnf) | (refine call_lend 3 (one_of t.name rawT) hC hasBody_15 rfl ?_ rfl rfl rfl rfl ?_; exact ⟨trivial, trivial, trivial⟩; conv => whnf) | (refine draw_lex hE ?_ ?_; decide +kernel; conv => whnf) | (refine draw_any hE [⟨3, [(0, none), (1, none), (2, none), (3, none), (4, none), (5, none), (8, none), (9, none), (10, none), (6, some 0), (7, none), (11, none), (12, none), (13, none), (14, some 1), (15, none), (16, none), (17, none), (18, none), (19, some 2)], some 20, [], [[]], []⟩, ⟨0, [], some 21, [], [[]], []⟩] ?_ ?_; decide +kernel; conv => whnf) | (refine draw_any hE [⟨0, [(0, none), (1, none), (2, none), (3, none), (4, none), (5, none), (6, none), (7, none), (8, none), (9, none), (10, none), (11, none)], some 12, [], [[]], []⟩] ?_ ?_; decide +kernel; conv => whnf) | (refine brd (fun h => ?_) (fun h => ?_) <;> conv => whnf) | (refine br (fun h => ?_) (fun h => ?_) <;> conv => whnf) | (refine ret_now hE ?_; conv => whnf) | (intro hlen; conv => whnf) | (refine seg_here ?_; conv => whnf) | (refine both ?_ ?_ <;> conv => whnf))
            · exact up_at [4, 5, 6, 7, 8, 26, 27, 28, 10] (σ' := dT l k t A2 [] []) rfl (hst [] (if_neg fun h => by rw [show t.self = true by assumption] at h; exact absurd h.1 (by decide)) (by omega))
            · exact dT_drop [4, 5, 6, 7, 8, 26, 27, 28, 10] (A := A2) (mute := t.name) (u' := []) rfl rfl (hst t.name (if_pos ⟨by assumption, of_decide_eq_true (by assumption)⟩) (by omega))
            · exact dT_drop [4, 5, 6, 7, 8, 26, 27, 28, 10] (A := A2) (mute := []) (u' := []) rfl rfl (hst [] (if_neg fun h => absurd h.2 (of_decide_eq_false (by assumption))) (by omega))
            · exact up_at [4, 5, 6, 7, 8, 26, 27, 28, 10] (σ' := dT l k t A2 [] []) rfl ⟨by omega, rfl⟩
          obtain ⟨hd, e13⟩ := e13
          subst e13
          rw [if_neg hd]
          refine awp_cut hE (fun σ => σ = dT l k t A2 [] [(14, .int .i64 (lastI (fun r => r.opn) A2))]) hg7 ?_ fun hg8 σ14 e14 => ?_
          · conv => whnf
            repeat' (first | (refine brd_t (by first | assumption | omega) ?_; conv => whnf) | (refine brd_f (by first | assumption | omega) ?_; conv => whnf) | (refine ask (by first | assumption | omega) ?_; conv => whnf) | (refine fit64 (by omega) ?_; conv => whnf) | (refine fit (by simp only [kmin, kmax]; omega) ?_; conv => whnf) | (refine br_t (by assumption) ?_; conv => whnf) | (refine br_f (by assumption) ?_; conv => whnf) | (refine get_of (by assumption) ?_; conv => whnf) | (refine get_map (by assumption) ?_; conv => whnf) | (refine call_inm A2 (by omega) hC (by kernel_rfl) rfl rfl ?_; conv => whnf) | (refine draw_lex hE ?_ ?_; decide +kernel; conv => whnf) | (refine draw_any hE [⟨3, [(0, none), (1, none), (2, none), (3, none), (4, none), (5, none), (8, none), (9, none), (10, none), (6, some 0), (7, none), (11, none), (12, none), (13, none), (14, some 1), (15, none), (16, none), (17, none), (18, none), (19, some 2)], some 20, [], [[]], []⟩, ⟨0, [], some 21, [], [[]], []⟩] ?_ ?_; decide +kernel; conv => whnf) | (refine draw_any hE [⟨0, [(0, none), (1, none), (2, none), (3, none), (4, none), (5, none), (6, none), (7, none), (8, none), (9, none), (10, none), (11, none)], some 12, [], [[]], []⟩] ?_ ?_; decide +kernel; conv => whnf) | (refine brd (fun h => ?_) (fun h => ?_) <;> conv => whnf) | (refine br (fun h => ?_) (fun h => ?_) <;> conv => whnf) | (refine ret_now hE ?_; conv => whnf) | (intro hlen; conv => whnf) | (refine seg_here ?_; conv => whnf) | (refine both ?_ ?_ <;> conv => whnf))
            exact up_at [4, 5, 6, 7, 8, 26, 27, 28, 10, 14] rfl rfl
          subst e14
          rw [lastI_top]
          clear hc1 hc2 hcx hd1 hcy hf1 hg1 hg2 hg3 hg4 hg5 hg6 hg7
          have htl : topI A2 ≤ A2.length := topI_le A2
          have ham : (t.attrs.map attA).length = t.attrs.length := by simp
          have hXX : ∀ o : Bool, (newE t A2).opn = o → killL 1 (List.take A2.length (List.drop 0 (A2.map flV)) ++ List.take 1 (List.drop 0 [V.agg [.int .i64 ((topI A2 : Int) - 1), .str t.name, .sl 5 0 (t.attrs.map attA).length, .str [], .nils, .bool o, .bool false]])) =
              A2.map flV ++ [.agg [.int .i64 (((newE t A2).inn : Int) - 1), .str (newE t A2).name, .sl 5 0 (t.attrs.map attA).length, .str (newE t A2).text, .nils, .bool (newE t A2).opn, .bool (!(newE t A2).elem)]] := by
            intro o ho
            rw [ho, List.drop_zero, List.drop_zero, List.take_of_length_le (by omega), killL_app, kill_nrL 1 (fls_nr A2)]
            simp [killL, V.kill, newE]
          refine awp_run hE hg8 ?_
          conv => whnf
          repeat' (first | (refine brd_t (by first | assumption | omega) ?_; conv => whnf) | (refine brd_f (by first | assumption | omega) ?_; conv => whnf) | (refine ask (by first | assumption | omega) ?_; conv => whnf) | (refine fit64 (by omega) ?_; conv => whnf) | (refine fit (by simp only [kmin, kmax]; omega) ?_; conv => whnf) | (refine br_t (by assumption) ?_; conv => whnf) | (refine br_f (by assumption) ?_; conv => whnf) | (refine get_of (by assumption) ?_; conv => whnf) | (refine get_map (by assumption) ?_; conv => whnf) | (refine ⟨cells_att t.attrs, ?_⟩; conv => whnf) | (refine callq_lend 6 (one_of t.name vodL) hC hasBody_15 rfl ?_ rfl rfl rfl rfl ?_; exact ⟨trivial, trivial, trivial, trivial, trivial⟩; conv => whnf) | (refine ask (Nat.le_refl 1) ?_; conv => whnf) | (refine ask ⟨?_, ?_⟩ ?_; (first | omega | (simp <;> omega)); (first | omega | (simp <;> omega)); conv => whnf) | (refine draw_lex hE ?_ ?_; decide +kernel; conv => whnf) | (refine draw_any hE [⟨3, [(0, none), (1, none), (2, none), (3, none), (4, none), (5, none), (8, none), (9, none), (10, none), (6, some 0), (7, none), (11, none), (12, none), (13, none), (14, some 1), (15, none), (16, none), (17, none), (18, none), (19, some 2)], some 20, [], [[]], []⟩, ⟨0, [], some 21, [], [[]], []⟩] ?_ ?_; decide +kernel; conv => whnf) | (refine draw_any hE [⟨0, [(0, none), (1, none), (2, none), (3, none), (4, none), (5, none), (6, none), (7, none), (8, none), (9, none), (10, none), (11, none)], some 12, [], [[]], []⟩] ?_ ?_; decide +kernel; conv => whnf) | (refine brd (fun h => ?_) (fun h => ?_) <;> conv => whnf) | (refine br (fun h => ?_) (fun h => ?_) <;> conv => whnf) | (refine ret_now hE ?_; conv => whnf) | (intro hlen; conv => whnf) | (refine seg_here ?_; conv => whnf) | (refine both ?_ ?_ <;> conv => whnf))
          · refine dT_app [4, 5, 6, 7, 8, 26, 27, 28, 10] (l := l) (k := k) (t := t) (A := A2) (mute := []) (r := newE t A2) (kill_nrL 1 (nr_atts t.attrs)) (hXX false (by unfold newE; simp [*])) rfl ham ?_ ?_
            · rfl
            · exact ⟨_, rfl, rfl⟩
          · refine dT_app [4, 5, 6, 7, 8, 26, 27, 28, 10] (l := l) (k := k) (t := t) (A := A2) (mute := []) (r := newE t A2) (kill_nrL 1 (nr_atts t.attrs)) (hXX false (by unfold newE; simp [*])) rfl ham ?_ ?_
            · rfl
            · exact ⟨_, rfl, rfl⟩
          · refine dT_app [4, 5, 6, 7, 8, 26, 27, 28, 10] (l := l) (k := k) (t := t) (A := A2) (mute := []) (r := newE t A2) (kill_nrL 1 (nr_atts t.attrs)) (hXX true (by unfold newE; simp [*])) rfl ham ?_ ?_
            · rfl
            · exact ⟨_, rfl, rfl⟩
        refine awp_cut hE (fun σ => σ = dT l k t S.A S.mute [(33, .int .i64 t.kind), (34, .bool false)]) (codeOk_b hf1) ?_ fun hg1 σ7 e7 => ?_
        · conv => whnf
          repeat' (first | (refine brd_t (by first | assumption | omega) ?_; conv => whnf) | (refine brd_f (by first | assumption | omega) ?_; conv => whnf) | (refine ask (by first | assumption | omega) ?_; conv => whnf) | (refine fit64 (by omega) ?_; conv => whnf) | (refine fit (by simp only [kmin, kmax]; omega) ?_; conv => whnf) | (refine br_t (by assumption) ?_; conv => whnf) | (refine br_f (by assumption) ?_; conv => whnf) | (refine get_of (by assumption) ?_; conv => whnf) | (refine get_map (by assumption) ?_; conv => whnf) | (refine draw_lex hE ?_ ?_; decide +kernel; conv => whnf) | (refine draw_any hE [⟨3, [(0, none), (1, none), (2, none), (3, none), (4, none), (5, none), (8, none), (9, none), (10, none), (6, some 0), (7, none), (11, none), (12, none), (13, none), (14, some 1), (15, none), (16, none), (17, none), (18, none), (19, some 2)], some 20, [], [[]], []⟩, ⟨0, [], some 21, [], [[]], []⟩] ?_ ?_; decide +kernel; conv => whnf) | (refine draw_any hE [⟨0, [(0, none), (1, none), (2, none), (3, none), (4, none), (5, none), (6, none), (7, none), (8, none), (9, none), (10, none), (11, none)], some 12, [], [[]], []⟩] ?_ ?_; decide +kernel; conv => whnf) | (refine brd (fun h => ?_) (fun h => ?_) <;> conv => whnf) | (refine br (fun h => ?_) (fun h => ?_) <;> conv => whnf) | (refine ret_now hE ?_; conv => whnf) | (intro hlen; conv => whnf) | (refine seg_here ?_; conv => whnf) | (refine both ?_ ?_ <;> conv => whnf))
          exact up_at [4, 5, 6, 7, 8, 26, 27, 28, 10, 33, 34] rfl rfl
        subst e7
        refine awp_condS (b := false) rfl ?_
        by_cases hk2 : t.kind = 2
        · have hstp : stepB t S = some (endB t S) := by unfold stepB; rw [if_neg hk1, if_pos hk2]
          rw [hstp]
          clear hc1 hc2 hcx hd1 hcy hf1
          refine awp_run hE (codeOk_2 hg1) ?_
          conv => whnf
          repeat' (first | (refine brd_t (by first | assumption | omega) ?_; conv => whnf) | (refine brd_f (by first | assumption | omega) ?_; conv => whnf) | (refine ask (by first | assumption | omega) ?_; conv => whnf) | (refine fit64 (by omega) ?_; conv => whnf) | (refine fit (by simp only [kmin, kmax]; omega) ?_; conv => whnf) | (refine br_t (by assumption) ?_; conv => whnf) | (refine br_f (by assumption) ?_; conv => whnf) | (refine get_of (by assumption) ?_; conv => whnf) | (refine get_map (by assumption) ?_; conv => whnf) | (refine call_lst S.A t.name (by omega) hC (by kernel_rfl) rfl rfl ?_; conv => whnf) | (refine call_shut S.A t.name (by omega) hE hC [4, 5, 6, 7, 8, 26, 27, 28, 10] rfl rfl rfl ?_; conv => whnf) | (refine draw_lex hE ?_ ?_; decide +kernel; conv => whnf) | (refine draw_any hE [⟨3, [(0, none), (1, none), (2, none), (3, none), (4, none), (5, none), (8, none), (9, none), (10, none), (6, some 0), (7, none), (11, none), (12, none), (13, none), (14, some 1), (15, none), (16, none), (17, none), (18, none), (19, some 2)], some 20, [], [[]], []⟩, ⟨0, [], some 21, [], [[]], []⟩] ?_ ?_; decide +kernel; conv => whnf) | (refine draw_any hE [⟨0, [(0, none), (1, none), (2, none), (3, none), (4, none), (5, none), (6, none), (7, none), (8, none), (9, none), (10, none), (11, none)], some 12, [], [[]], []⟩] ?_ ?_; decide +kernel; conv => whnf) | (refine brd (fun h => ?_) (fun h => ?_) <;> conv => whnf) | (refine br (fun h => ?_) (fun h => ?_) <;> conv => whnf) | (refine ret_now hE ?_; conv => whnf) | (intro hlen; conv => whnf) | (refine seg_here ?_; conv => whnf) | (refine both ?_ ?_ <;> conv => whnf))
          all_goals first
            | exact up_at [4, 5, 6, 7, 8, 26, 27, 28, 10] (σ' := dT l k t (shutO S.A (lastN S.A t.name)) [] []) rfl ⟨_, rfl, by unfold endB; rw [if_pos (by assumption)]⟩
            | exact up_at [4, 5, 6, 7, 8, 26, 27, 28, 10] (σ' := dT l k t (shutO S.A (lastN S.A t.name)) S.mute []) rfl ⟨_, rfl, by unfold endB; rw [if_neg (by assumption)]⟩
            | trace_state
        by_cases hk3 : t.kind = 3
        · have hstp : stepB t S = some (charsB t.text S) := by unfold stepB; rw [if_neg hk1, if_neg hk2, if_pos hk3]
          rw [hstp]
          have hSB : charsB t.text S = if t.text = [] ∨ S.mute ≠ [] ∨ rawTop S.A = true then S else ⟨charA t.text S.A, S.mute⟩ := rfl
          rw [hSB]
          refine awp_cut hE (fun σ => σ = dT l k t S.A S.mute [(33, .int .i64 t.kind), (112, .bool false)]) (codeOk_2 hg1) ?_ fun hg2 σ8 e8 => ?_
          · conv => whnf
            repeat' (first | (refine brd_t (by first | assumption | omega) ?_; conv => whnf) | (refine brd_f (by first | assumption | omega) ?_; conv => whnf) | (refine ask (by first | assumption | omega) ?_; conv => whnf) | (refine fit64 (by omega) ?_; conv => whnf) | (refine fit (by simp only [kmin, kmax]; omega) ?_; conv => whnf) | (refine br_t (by assumption) ?_; conv => whnf) | (refine br_f (by assumption) ?_; conv => whnf) | (refine get_of (by assumption) ?_; conv => whnf) | (refine get_map (by assumption) ?_; conv => whnf) | (refine draw_lex hE ?_ ?_; decide +kernel; conv => whnf) | (refine draw_any hE [⟨3, [(0, none), (1, none), (2, none), (3, none), (4, none), (5, none), (8, none), (9, none), (10, none), (6, some 0), (7, none), (11, none), (12, none), (13, none), (14, some 1), (15, none), (16, none), (17, none), (18, none), (19, some 2)], some 20, [], [[]], []⟩, ⟨0, [], some 21, [], [[]], []⟩] ?_ ?_; decide +kernel; conv => whnf) | (refine draw_any hE [⟨0, [(0, none), (1, none), (2, none), (3, none), (4, none), (5, none), (6, none), (7, none), (8, none), (9, none), (10, none), (11, none)], some 12, [], [[]], []⟩] ?_ ?_; decide +kernel; conv => whnf) | (refine brd (fun h => ?_) (fun h => ?_) <;> conv => whnf) | (refine br (fun h => ?_) (fun h => ?_) <;> conv => whnf) | (refine ret_now hE ?_; conv => whnf) | (intro hlen; conv => whnf) | (refine seg_here ?_; conv => whnf) | (refine both ?_ ?_ <;> conv => whnf))
            exact up_at [4, 5, 6, 7, 8, 26, 27, 28, 10, 33, 112] rfl rfl
          subst e8
          refine awp_condS (b := false) rfl ?_
          refine awp_cut hE (fun σ => σ = dT l k t S.A S.mute [(124, .bool true)]) (codeOk_2 hg2) ?_ fun hg3 σ9 e9 => ?_
          · conv => whnf
            repeat' (first | (refine brd_t (by first | assumption | omega) ?_; conv => whnf) | (refine brd_f (by first | assumption | omega) ?_; conv => whnf) | (refine ask (by first | assumption | omega) ?_; conv => whnf) | (refine fit64 (by omega) ?_; conv => whnf) | (refine fit (by simp only [kmin, kmax]; omega) ?_; conv => whnf) | (refine br_t (by assumption) ?_; conv => whnf) | (refine br_f (by assumption) ?_; conv => whnf) | (refine get_of (by assumption) ?_; conv => whnf) | (refine get_map (by assumption) ?_; conv => whnf) | (refine draw_lex hE ?_ ?_; decide +kernel; conv => whnf) | (refine draw_any hE [⟨3, [(0, none), (1, none), (2, none), (3, none), (4, none), (5, none), (8, none), (9, none), (10, none), (6, some 0), (7, none), (11, none), (12, none), (13, none), (14, some 1), (15, none), (16, none), (17, none), (18, none), (19, some 2)], some 20, [], [[]], []⟩, ⟨0, [], some 21, [], [[]], []⟩] ?_ ?_; decide +kernel; conv => whnf) | (refine draw_any hE [⟨0, [(0, none), (1, none), (2, none), (3, none), (4, none), (5, none), (6, none), (7, none), (8, none), (9, none), (10, none), (11, none)], some 12, [], [[]], []⟩] ?_ ?_; decide +kernel; conv => whnf) | (refine brd (fun h => ?_) (fun h => ?_) <;> conv => whnf) | (refine br (fun h => ?_) (fun h => ?_) <;> conv => whnf) | (refine ret_now hE ?_; conv => whnf) | (intro hlen; conv => whnf) | (refine seg_here ?_; conv => whnf) | (refine both ?_ ?_ <;> conv => whnf))
            exact up_at [4, 5, 6, 7, 8, 26, 27, 28, 10, 124] rfl rfl
          subst e9
          refine awp_condS (b := true) rfl ?_
          refine awp_cut hE (fun σ => σ = dT l k t S.A S.mute [(15, .int .i64 ((topI S.A : Int) - 1))]) (codeOk_1 hg3) ?_ fun hg4 σ10 e10 => ?_
          · rw [← lastI_top]
            conv => whnf
            repeat' (first | (refine brd_t (by first | assumption | omega) ?_; conv => whnf) | (refine brd_f (by first | assumption | omega) ?_; conv => whnf) | (refine ask (by first | assumption | omega) ?_; conv => whnf) | (refine fit64 (by omega) ?_; conv => whnf) | (refine fit (by simp only [kmin, kmax]; omega) ?_; conv => whnf) | (refine br_t (by assumption) ?_; conv => whnf) | (refine br_f (by assumption) ?_; conv => whnf) | (refine get_of (by assumption) ?_; conv => whnf) | (refine get_map (by assumption) ?_; conv => whnf) | (refine call_inm S.A (by omega) hC (by kernel_rfl) rfl rfl ?_; conv => whnf) | (refine draw_lex hE ?_ ?_; decide +kernel; conv => whnf) | (refine draw_any hE [⟨3, [(0, none), (1, none), (2, none), (3, none), (4, none), (5, none), (8, none), (9, none), (10, none), (6, some 0), (7, none), (11, none), (12, none), (13, none), (14, some 1), (15, none), (16, none), (17, none), (18, none), (19, some 2)], some 20, [], [[]], []⟩, ⟨0, [], some 21, [], [[]], []⟩] ?_ ?_; decide +kernel; conv => whnf) | (refine draw_any hE [⟨0, [(0, none), (1, none), (2, none), (3, none), (4, none), (5, none), (6, none), (7, none), (8, none), (9, none), (10, none), (11, none)], some 12, [], [[]], []⟩] ?_ ?_; decide +kernel; conv => whnf) | (refine brd (fun h => ?_) (fun h => ?_) <;> conv => whnf) | (refine br (fun h => ?_) (fun h => ?_) <;> conv => whnf) | (refine ret_now hE ?_; conv => whnf) | (intro hlen; conv => whnf) | (refine seg_here ?_; conv => whnf) | (refine both ?_ ?_ <;> conv => whnf))
            exact up_at [4, 5, 6, 7, 8, 26, 27, 28, 10, 15] rfl rfl
          subst e10
          clear hc1 hc2 hcx hd1 hcy hf1 hg1 hg2 hg3
          have hlm2 : (S.A.map flV).length = S.A.length := by simp
          have htl : topI S.A ≤ S.A.length := topI_le S.A
          refine awp_cut hE (fun σ => ¬ (t.text = [] ∨ S.mute ≠ [] ∨ rawTop S.A = true) ∧ σ = dT l k t S.A S.mute [(15, .int .i64 ((topI S.A : Int) - 1))]) hg4 ?_ fun hg5 σ11 e11 => ?_
          · have hback : (t.text = [] ∨ S.mute ≠ [] ∨ rawTop S.A = true) → ∃ S' : Bs, some (if t.text = [] ∨ S.mute ≠ [] ∨ rawTop S.A = true then S else ⟨charA t.text S.A, S.mute⟩) = some S' ∧ dT l k t S.A S.mute [] = dT l k t S'.A S'.mute [] := fun h => ⟨S, by rw [if_pos h], rfl⟩
            rcases topI_at hW with ⟨h0, hr0, hrec⟩ | ⟨j, q, hj, hq, hr0, hrec, hel⟩
            · rw [h0]
              conv => whnf
              repeat' (first | (refine brd_t (by first | assumption | omega) ?_; conv => whnf) | (refine brd_f (by first | assumption | omega) ?_; conv => whnf) | (refine ask (by first | assumption | omega) ?_; conv => whnf) | (refine fit64 (by omega) ?_; conv => whnf) | (refine fit (by simp only [kmin, kmax]; omega) ?_; conv => whnf) | (refine br_t (by assumption) ?_; conv => whnf) | (refine br_f (by assumption) ?_; conv => whnf) | (refine get_of (by assumption) ?_; conv => whnf) | (refine get_map (by assumption) ?_; conv => whnf) | (refine brd_f (by decide) ?_; conv => whnf) | (refine draw_lex hE ?_ ?_; decide +kernel; conv => whnf) | (refine draw_any hE [⟨3, [(0, none), (1, none), (2, none), (3, none), (4, none), (5, none), (8, none), (9, none), (10, none), (6, some 0), (7, none), (11, none), (12, none), (13, none), (14, some 1), (15, none), (16, none), (17, none), (18, none), (19, some 2)], some 20, [], [[]], []⟩, ⟨0, [], some 21, [], [[]], []⟩] ?_ ?_; decide +kernel; conv => whnf) | (refine draw_any hE [⟨0, [(0, none), (1, none), (2, none), (3, none), (4, none), (5, none), (6, none), (7, none), (8, none), (9, none), (10, none), (11, none)], some 12, [], [[]], []⟩] ?_ ?_; decide +kernel; conv => whnf) | (refine brd (fun h => ?_) (fun h => ?_) <;> conv => whnf) | (refine br (fun h => ?_) (fun h => ?_) <;> conv => whnf) | (refine ret_now hE ?_; conv => whnf) | (intro hlen; conv => whnf) | (refine seg_here ?_; conv => whnf) | (refine both ?_ ?_ <;> conv => whnf))
              · exact up_at [4, 5, 6, 7, 8, 26, 27, 28, 10] (σ' := dT l k t S.A S.mute []) rfl (hback (.inl (by assumption)))
              · exact up_at [4, 5, 6, 7, 8, 26, 27, 28, 10, 15] (σ' := dT l k t S.A S.mute [(15, .int .i64 (((0 : Nat) : Int) - 1))]) rfl ⟨(by rintro (h | h | h); exact absurd h (by assumption); exact h (by assumption); rw [hr0] at h; cases h), rfl⟩
              · exact up_at [4, 5, 6, 7, 8, 26, 27, 28, 10] (σ' := dT l k t S.A S.mute []) rfl (hback (.inr (.inl (by assumption))))
            · have hg : (S.A.map flV)[0 + Int.toNat (((topI S.A : Nat) : Int) - 1)]? = some (.agg [.int .i64 ((q.inn : Int) - 1), .str q.name, .lst (q.atts.map attA), .str q.text, .lst [], .bool q.opn, .bool (!q.elem)]) := by
                rw [hj, show 0 + Int.toNat (((j + 1 : Nat) : Int) - 1) = j by omega, List.getElem?_map, hq]; rfl
              have hjl := (List.getElem?_eq_some_iff.1 hq).1
              generalize topI S.A = p at *
              conv => whnf
              repeat' (first | (refine brd_t (by first | assumption | omega) ?_; conv => whnf) | (refine brd_f (by first | assumption | omega) ?_; conv => whnf) | (refine ask (by first | assumption | omega) ?_; conv => whnf) | (refine fit64 (by omega) ?_; conv => whnf) | (refine fit (by simp only [kmin, kmax]; omega) ?_; conv => whnf) | (refine br_t (by assumption) ?_; conv => whnf) | (refine br_f (by assumption) ?_; conv => whnf) | (refine get_of (by assumption) ?_; conv => whnf) | (refine get_map (by assumption) ?_; conv => whnf) | (refine get_of hg ?_; conv => whnf) | (refine call_lend 3 (one_of q.name rawT) hC hasBody_15 rfl ?_ rfl rfl rfl rfl ?_; exact ⟨trivial, trivial, trivial⟩; conv => whnf) | (refine draw_lex hE ?_ ?_; decide +kernel; conv => whnf) | (refine draw_any hE [⟨3, [(0, none), (1, none), (2, none), (3, none), (4, none), (5, none), (8, none), (9, none), (10, none), (6, some 0), (7, none), (11, none), (12, none), (13, none), (14, some 1), (15, none), (16, none), (17, none), (18, none), (19, some 2)], some 20, [], [[]], []⟩, ⟨0, [], some 21, [], [[]], []⟩] ?_ ?_; decide +kernel; conv => whnf) | (refine draw_any hE [⟨0, [(0, none), (1, none), (2, none), (3, none), (4, none), (5, none), (6, none), (7, none), (8, none), (9, none), (10, none), (11, none)], some 12, [], [[]], []⟩] ?_ ?_; decide +kernel; conv => whnf) | (refine brd (fun h => ?_) (fun h => ?_) <;> conv => whnf) | (refine br (fun h => ?_) (fun h => ?_) <;> conv => whnf) | (refine ret_now hE ?_; conv => whnf) | (intro hlen; conv => whnf) | (refine seg_here ?_; conv => whnf) | (refine both ?_ ?_ <;> conv => whnf))
              · exact up_at [4, 5, 6, 7, 8, 26, 27, 28, 10] (σ' := dT l k t S.A S.mute []) rfl (hback (.inl (by assumption)))
              · exact dT_drop [4, 5, 6, 7, 8, 26, 27, 28, 10] (A := S.A) (mute := S.mute) (u' := []) rfl rfl (hback (.inr (.inr (hr0.trans (by assumption)))))
              · exact dT_drop [4, 5, 6, 7, 8, 26, 27, 28, 10, 15] (A := S.A) (mute := S.mute) (u' := [(15, .int .i64 ((p : Int) - 1))]) rfl rfl ⟨(by rintro (h | h | h); exact absurd h (by assumption); exact h (by assumption); rw [hr0, show decide (q.name ∈ rawT) = false by assumption] at h; cases h), rfl⟩
              · exact up_at [4, 5, 6, 7, 8, 26, 27, 28, 10] (σ' := dT l k t S.A S.mute []) rfl (hback (.inr (.inl (by assumption))))
          obtain ⟨hno, e11⟩ := e11
          subst e11
          rw [if_neg hno]
          clear hno hg4
          refine awp_cut hE (fun σ => σ = dT l k t S.A S.mute [(15, .int .i64 ((topI S.A : Int) - 1)), (16, .int .i64 (-1))]) hg5 ?_ fun hg6 σ12 e12 => ?_
          · conv => whnf
            repeat' (first | (refine brd_t (by first | assumption | omega) ?_; conv => whnf) | (refine brd_f (by first | assumption | omega) ?_; conv => whnf) | (refine ask (by first | assumption | omega) ?_; conv => whnf) | (refine fit64 (by omega) ?_; conv => whnf) | (refine fit (by simp only [kmin, kmax]; omega) ?_; conv => whnf) | (refine br_t (by assumption) ?_; conv => whnf) | (refine br_f (by assumption) ?_; conv => whnf) | (refine get_of (by assumption) ?_; conv => whnf) | (refine get_map (by assumption) ?_; conv => whnf) | (refine draw_lex hE ?_ ?_; decide +kernel; conv => whnf) | (refine draw_any hE [⟨3, [(0, none), (1, none), (2, none), (3, none), (4, none), (5, none), (8, none), (9, none), (10, none), (6, some 0), (7, none), (11, none), (12, none), (13, none), (14, some 1), (15, none), (16, none), (17, none), (18, none), (19, some 2)], some 20, [], [[]], []⟩, ⟨0, [], some 21, [], [[]], []⟩] ?_ ?_; decide +kernel; conv => whnf) | (refine draw_any hE [⟨0, [(0, none), (1, none), (2, none), (3, none), (4, none), (5, none), (6, none), (7, none), (8, none), (9, none), (10, none), (11, none)], some 12, [], [[]], []⟩] ?_ ?_; decide +kernel; conv => whnf) | (refine brd (fun h => ?_) (fun h => ?_) <;> conv => whnf) | (refine br (fun h => ?_) (fun h => ?_) <;> conv => whnf) | (refine ret_now hE ?_; conv => whnf) | (intro hlen; conv => whnf) | (refine seg_here ?_; conv => whnf) | (refine both ?_ ?_ <;> conv => whnf))
            exact up_at [4, 5, 6, 7, 8, 26, 27, 28, 10, 15, 16] rfl rfl
          subst e12
          have hlk : lastI (fun r => r.inn == topI S.A) S.A = (match lastK S.A with | none => (-1 : Int) | some j => j) := rfl
          have hAp : (lastK S.A = none ∨ ∃ (j : Nat) (r : Rc), lastK S.A = some j ∧ S.A[j]? = some r ∧ r.elem = true) → charA t.text S.A = S.A ++ [newT t.text S.A] := by
            rintro (h | ⟨j, r, h1, h2, h3⟩)
            · unfold charA; rw [h]
            · unfold charA; rw [h1]; simp [h2, h3]
          have hnt : newT t.text S.A = ⟨topI S.A, [], [], t.text, false, false⟩ := rfl
          generalize topI S.A = p at *
          -- the last that is in it
          refine awp_cut hE (fun σ => σ = dT l k t S.A S.mute [(15, .int .i64 ((p : Int) - 1)), (16, .int .i64 (lastI (fun r => r.inn == p) S.A))]) hg6 ?_ fun hg7 σ13 e13 => ?_
          · conv => whnf
            repeat' (first | (refine brd_t (by first | assumption | omega) ?_; conv => whnf) | (refine brd_f (by first | assumption | omega) ?_; conv => whnf) | (refine ask (by first | assumption | omega) ?_; conv => whnf) | (refine fit64 (by omega) ?_; conv => whnf) | (refine fit (by simp only [kmin, kmax]; omega) ?_; conv => whnf) | (refine br_t (by assumption) ?_; conv => whnf) | (refine br_f (by assumption) ?_; conv => whnf) | (refine get_of (by assumption) ?_; conv => whnf) | (refine get_map (by assumption) ?_; conv => whnf) | (refine draw_lex hE ?_ ?_; decide +kernel; conv => whnf) | (refine draw_any hE [⟨3, [(0, none), (1, none), (2, none), (3, none), (4, none), (5, none), (8, none), (9, none), (10, none), (6, some 0), (7, none), (11, none), (12, none), (13, none), (14, some 1), (15, none), (16, none), (17, none), (18, none), (19, some 2)], some 20, [], [[]], []⟩, ⟨0, [], some 21, [], [[]], []⟩] ?_ ?_; decide +kernel; conv => whnf) | (refine draw_any hE [⟨0, [(0, none), (1, none), (2, none), (3, none), (4, none), (5, none), (6, none), (7, none), (8, none), (9, none), (10, none), (11, none)], some 12, [], [[]], []⟩] ?_ ?_; decide +kernel; conv => whnf) | (refine brd (fun h => ?_) (fun h => ?_) <;> conv => whnf) | (refine br (fun h => ?_) (fun h => ?_) <;> conv => whnf) | (refine ret_now hE ?_; conv => whnf) | (intro hlen; conv => whnf) | (refine seg_here ?_; conv => whnf) | (refine both ?_ ?_ <;> conv => whnf))
            refine loopE (fun q : Nat => dT l k t S.A S.mute [(15, .int .i64 ((p : Int) - 1)), (16, .int .i64 (lastI (fun r => r.inn == p) (S.A.take q))), (149, .sl 1 0 S.A.length), (150, .int .i64 S.A.length), (151, .int .i64 q)]) (fun q => q ≤ S.A.length) (fun q => S.A.length - q) 0 hE ?_ ?_ (Nat.zero_le _) ?_
            · kernel_rfl
            · exact up_at [4, 5, 6, 7, 8, 26, 27, 28, 10, 15, 16, 149, 150, 151] rfl rfl
            intro q hq
            by_cases hql : q < S.A.length
            · obtain ⟨r, hr⟩ : ∃ r, S.A[q]? = some r := ⟨_, List.getElem?_eq_getElem hql⟩
              have hg : (S.A.map flV)[0 + Int.toNat (q : Int)]? = some (.agg [.int .i64 ((r.inn : Int) - 1), .str r.name, .lst (r.atts.map attA), .str r.text, .lst [], .bool r.opn, .bool (!r.elem)]) := by
                rw [Nat.zero_add, Int.toNat_natCast, List.getElem?_map, hr]; rfl
              have hcn := lastI_take (p := fun r => r.inn == p) hr
              conv => whnf
              repeat' (first | (refine brd_t (by first | assumption | omega) ?_; conv => whnf) | (refine brd_f (by first | assumption | omega) ?_; conv => whnf) | (refine ask (by first | assumption | omega) ?_; conv => whnf) | (refine fit64 (by omega) ?_; conv => whnf) | (refine fit (by simp only [kmin, kmax]; omega) ?_; conv => whnf) | (refine br_t (by assumption) ?_; conv => whnf) | (refine br_f (by assumption) ?_; conv => whnf) | (refine get_of (by assumption) ?_; conv => whnf) | (refine get_map (by assumption) ?_; conv => whnf) | (refine get_of hg ?_; conv => whnf) | (refine draw_lex hE ?_ ?_; decide +kernel; conv => whnf) | (refine draw_any hE [⟨3, [(0, none), (1, none), (2, none), (3, none), (4, none), (5, none), (8, none), (9, none), (10, none), (6, some 0), (7, none), (11, none), (12, none), (13, none), (14, some 1), (15, none), (16, none), (17, none), (18, none), (19, some 2)], some 20, [], [[]], []⟩, ⟨0, [], some 21, [], [[]], []⟩] ?_ ?_; decide +kernel; conv => whnf) | (refine draw_any hE [⟨0, [(0, none), (1, none), (2, none), (3, none), (4, none), (5, none), (6, none), (7, none), (8, none), (9, none), (10, none), (11, none)], some 12, [], [[]], []⟩] ?_ ?_; decide +kernel; conv => whnf) | (refine brd (fun h => ?_) (fun h => ?_) <;> conv => whnf) | (refine br (fun h => ?_) (fun h => ?_) <;> conv => whnf) | (refine ret_now hE ?_; conv => whnf) | (intro hlen; conv => whnf) | (refine seg_here ?_; conv => whnf) | (refine both ?_ ?_ <;> conv => whnf))
              all_goals first
                | exact dT_drop [4, 5, 6, 7, 8, 26, 27, 28, 10, 15, 16, 149, 150, 151] rfl rfl ⟨q + 1, hql, (show S.A.length - (q + 1) < S.A.length - q by omega), (by show _ = dT l k t S.A S.mute [(15, .int .i64 ((p : Int) - 1)), (16, .int .i64 (lastI (fun r => r.inn == p) (S.A.take (q + 1)))), (149, .sl 1 0 S.A.length), (150, .int .i64 S.A.length), (151, .int .i64 ((q + 1 : Nat) : Int))]; rw [hcn, if_pos (by simp; omega)]; rfl)⟩
                | exact dT_drop [4, 5, 6, 7, 8, 26, 27, 28, 10, 15, 16, 149, 150, 151] rfl rfl ⟨q + 1, hql, (show S.A.length - (q + 1) < S.A.length - q by omega), (by show _ = dT l k t S.A S.mute [(15, .int .i64 ((p : Int) - 1)), (16, .int .i64 (lastI (fun r => r.inn == p) (S.A.take (q + 1)))), (149, .sl 1 0 S.A.length), (150, .int .i64 S.A.length), (151, .int .i64 ((q + 1 : Nat) : Int))]; rw [hcn, if_neg (by simp; omega)]; rfl)⟩
                | trace_state
            · obtain rfl : q = S.A.length := by omega
              rw [List.take_length]
              conv => whnf
              repeat' (first | (refine brd_t (by first | assumption | omega) ?_; conv => whnf) | (refine brd_f (by first | assumption | omega) ?_; conv => whnf) | (refine ask (by first | assumption | omega) ?_; conv => whnf) | (refine fit64 (by omega) ?_; conv => whnf) | (refine fit (by simp only [kmin, kmax]; omega) ?_; conv => whnf) | (refine br_t (by assumption) ?_; conv => whnf) | (refine br_f (by assumption) ?_; conv => whnf) | (refine get_of (by assumption) ?_; conv => whnf) | (refine get_map (by assumption) ?_; conv => whnf) | (refine draw_lex hE ?_ ?_; decide +kernel; conv => whnf) | (refine draw_any hE [⟨3, [(0, none), (1, none), (2, none), (3, none), (4, none), (5, none), (8, none), (9, none), (10, none), (6, some 0), (7, none), (11, none), (12, none), (13, none), (14, some 1), (15, none), (16, none), (17, none), (18, none), (19, some 2)], some 20, [], [[]], []⟩, ⟨0, [], some 21, [], [[]], []⟩] ?_ ?_; decide +kernel; conv => whnf) | (refine draw_any hE [⟨0, [(0, none), (1, none), (2, none), (3, none), (4, none), (5, none), (6, none), (7, none), (8, none), (9, none), (10, none), (11, none)], some 12, [], [[]], []⟩] ?_ ?_; decide +kernel; conv => whnf) | (refine brd (fun h => ?_) (fun h => ?_) <;> conv => whnf) | (refine br (fun h => ?_) (fun h => ?_) <;> conv => whnf) | (refine ret_now hE ?_; conv => whnf) | (intro hlen; conv => whnf) | (refine seg_here ?_; conv => whnf) | (refine both ?_ ?_ <;> conv => whnf))
              exact up_at [4, 5, 6, 7, 8, 26, 27, 28, 10, 15, 16] rfl rfl
          subst e13
          have hXX : killL 1 (List.take S.A.length (List.drop 0 (S.A.map flV)) ++ List.take 1 (List.drop 0 [V.agg [.int .i64 ((p : Int) - 1), .str [], .nils, .str t.text, .nils, .bool false, .bool true]])) =
              S.A.map flV ++ [.agg [.int .i64 (((newT t.text S.A).inn : Int) - 1), .str (newT t.text S.A).name, .nils, .str (newT t.text S.A).text, .nils, .bool (newT t.text S.A).opn, .bool (!(newT t.text S.A).elem)]] := by
            rw [hnt, List.drop_zero, List.drop_zero, List.take_of_length_le (by omega), killL_app, kill_nrL 1 (fls_nr S.A)]
            simp [killL, V.kill]
          rw [hlk]
          clear hlk
          cases hl : lastK S.A with
          | none =>
            rw [hAp (.inl hl)]
            show AWp C _ _ (dT l k t S.A S.mute [(15, .int .i64 ((p : Int) - 1)), (16, .int .i64 (-1))]).st
            refine awp_run hE hg7 ?_
            conv => whnf
            repeat' (first | (refine brd_t (by first | assumption | omega) ?_; conv => whnf) | (refine brd_f (by first | assumption | omega) ?_; conv => whnf) | (refine ask (by first | assumption | omega) ?_; conv => whnf) | (refine fit64 (by omega) ?_; conv => whnf) | (refine fit (by simp only [kmin, kmax]; omega) ?_; conv => whnf) | (refine br_t (by assumption) ?_; conv => whnf) | (refine br_f (by assumption) ?_; conv => whnf) | (refine get_of (by assumption) ?_; conv => whnf) | (refine get_map (by assumption) ?_; conv => whnf) | (refine brd_f (by decide) ?_; conv => whnf) | (refine ask (Nat.le_refl 1) ?_; conv => whnf) | (refine ask ⟨?_, ?_, ?_⟩ ?_; (first | omega | (simp <;> omega)); (first | omega | (simp <;> omega)); (first | omega | (simp <;> omega)); conv => whnf) | (refine draw_lex hE ?_ ?_; decide +kernel; conv => whnf) | (refine draw_any hE [⟨3, [(0, none), (1, none), (2, none), (3, none), (4, none), (5, none), (8, none), (9, none), (10, none), (6, some 0), (7, none), (11, none), (12, none), (13, none), (14, some 1), (15, none), (16, none), (17, none), (18, none), (19, some 2)], some 20, [], [[]], []⟩, ⟨0, [], some 21, [], [[]], []⟩] ?_ ?_; decide +kernel; conv => whnf) | (refine draw_any hE [⟨0, [(0, none), (1, none), (2, none), (3, none), (4, none), (5, none), (6, none), (7, none), (8, none), (9, none), (10, none), (11, none)], some 12, [], [[]], []⟩] ?_ ?_; decide +kernel; conv => whnf) | (refine brd (fun h => ?_) (fun h => ?_) <;> conv => whnf) | (refine br (fun h => ?_) (fun h => ?_) <;> conv => whnf) | (refine ret_now hE ?_; conv => whnf) | (intro hlen; conv => whnf) | (refine seg_here ?_; conv => whnf) | (refine both ?_ ?_ <;> conv => whnf))
            refine dT_app2 [4, 5, 6, 7, 8, 26, 27, 28, 10] (l := l) (k := k) (t := t) (A := S.A) (mute := S.mute) (r := newT t.text S.A) hXX rfl rfl ?_ ?_
            · rfl
            · exact ⟨_, rfl, rfl⟩
          | some j =>
            obtain ⟨r, hr, _⟩ := lastIdx_some hl
            show AWp C _ _ (dT l k t S.A S.mute [(15, .int .i64 ((p : Int) - 1)), (16, .int .i64 (j : Int))]).st
            have hjl := (List.getElem?_eq_some_iff.1 hr).1
            have hxr := totX_mem (List.mem_of_getElem? hr)
            have hg : (S.A.map flV)[0 + Int.toNat (j : Int)]? = some (.agg [.int .i64 ((r.inn : Int) - 1), .str r.name, .lst (r.atts.map attA), .str r.text, .lst [], .bool r.opn, .bool (!r.elem)]) := by
              rw [Nat.zero_add, Int.toNat_natCast, List.getElem?_map, hr]; rfl
            cases hel : r.elem with
            | true =>
              rw [hel] at hg
              rw [hAp (.inr ⟨j, r, hl, hr, hel⟩)]
              refine awp_run hE hg7 ?_
              conv => whnf
              repeat' (first | (refine brd_t (by first | assumption | omega) ?_; conv => whnf) | (refine brd_f (by first | assumption | omega) ?_; conv => whnf) | (refine ask (by first | assumption | omega) ?_; conv => whnf) | (refine fit64 (by omega) ?_; conv => whnf) | (refine fit (by simp only [kmin, kmax]; omega) ?_; conv => whnf) | (refine br_t (by assumption) ?_; conv => whnf) | (refine br_f (by assumption) ?_; conv => whnf) | (refine get_of (by assumption) ?_; conv => whnf) | (refine get_map (by assumption) ?_; conv => whnf) | (refine get_of hg ?_; conv => whnf) | (refine ask (Nat.le_refl 1) ?_; conv => whnf) | (refine ask ⟨?_, ?_, ?_⟩ ?_; (first | omega | (simp <;> omega)); (first | omega | (simp <;> omega)); (first | omega | (simp <;> omega)); conv => whnf) | (refine draw_lex hE ?_ ?_; decide +kernel; conv => whnf) | (refine draw_any hE [⟨3, [(0, none), (1, none), (2, none), (3, none), (4, none), (5, none), (8, none), (9, none), (10, none), (6, some 0), (7, none), (11, none), (12, none), (13, none), (14, some 1), (15, none), (16, none), (17, none), (18, none), (19, some 2)], some 20, [], [[]], []⟩, ⟨0, [], some 21, [], [[]], []⟩] ?_ ?_; decide +kernel; conv => whnf) | (refine draw_any hE [⟨0, [(0, none), (1, none), (2, none), (3, none), (4, none), (5, none), (6, none), (7, none), (8, none), (9, none), (10, none), (11, none)], some 12, [], [[]], []⟩] ?_ ?_; decide +kernel; conv => whnf) | (refine brd (fun h => ?_) (fun h => ?_) <;> conv => whnf) | (refine br (fun h => ?_) (fun h => ?_) <;> conv => whnf) | (refine ret_now hE ?_; conv => whnf) | (intro hlen; conv => whnf) | (refine seg_here ?_; conv => whnf) | (refine both ?_ ?_ <;> conv => whnf))
              refine dT_app2 [4, 5, 6, 7, 8, 26, 27, 28, 10] (l := l) (k := k) (t := t) (A := S.A) (mute := S.mute) (r := newT t.text S.A) hXX rfl rfl ?_ ?_
              · rfl
              · exact ⟨_, rfl, rfl⟩
            | false =>
              rw [hel] at hg
              have hch : charA t.text S.A = S.A.set j (addT t.text r) := by unfold charA; rw [hl]; simp only [hr, hel, if_true]
              rw [hch]
              refine awp_run hE hg7 ?_
              conv => whnf
              repeat' (first | (refine brd_t (by first | assumption | omega) ?_; conv => whnf) | (refine brd_f (by first | assumption | omega) ?_; conv => whnf) | (refine ask (by first | assumption | omega) ?_; conv => whnf) | (refine fit64 (by omega) ?_; conv => whnf) | (refine fit (by simp only [kmin, kmax]; omega) ?_; conv => whnf) | (refine br_t (by assumption) ?_; conv => whnf) | (refine br_f (by assumption) ?_; conv => whnf) | (refine get_of (by assumption) ?_; conv => whnf) | (refine get_map (by assumption) ?_; conv => whnf) | (refine get_of hg ?_; conv => whnf) | (refine ask (Nat.le_refl 1) ?_; conv => whnf) | (refine draw_lex hE ?_ ?_; decide +kernel; conv => whnf) | (refine draw_any hE [⟨3, [(0, none), (1, none), (2, none), (3, none), (4, none), (5, none), (8, none), (9, none), (10, none), (6, some 0), (7, none), (11, none), (12, none), (13, none), (14, some 1), (15, none), (16, none), (17, none), (18, none), (19, some 2)], some 20, [], [[]], []⟩, ⟨0, [], some 21, [], [[]], []⟩] ?_ ?_; decide +kernel; conv => whnf) | (refine draw_any hE [⟨0, [(0, none), (1, none), (2, none), (3, none), (4, none), (5, none), (6, none), (7, none), (8, none), (9, none), (10, none), (11, none)], some 12, [], [[]], []⟩] ?_ ?_; decide +kernel; conv => whnf) | (refine brd (fun h => ?_) (fun h => ?_) <;> conv => whnf) | (refine br (fun h => ?_) (fun h => ?_) <;> conv => whnf) | (refine ret_now hE ?_; conv => whnf) | (intro hlen; conv => whnf) | (refine seg_here ?_; conv => whnf) | (refine both ?_ ?_ <;> conv => whnf))
              have hfl : flV (addT t.text r) = .agg [.int .i64 ((r.inn : Int) - 1), .str r.name, .lst (r.atts.map attA), .str (r.text ++ t.text), .lst [], .bool r.opn, .bool (!false)] := by simp [flV, addT, hel]
              have e : (S.A.set j (addT t.text r)).map flV = (S.A.map flV).set (0 + Int.toNat (j : Int)) (.agg [.int .i64 ((r.inn : Int) - 1), .str r.name, .lst (r.atts.map attA), .str (r.text ++ t.text), .lst [], .bool r.opn, .bool (!false)]) := by rw [List.map_set, hfl, Nat.zero_add, Int.toNat_natCast]
              refine up_at [4, 5, 6, 7, 8, 26, 27, 28, 10] (σ' := dT l k t (S.A.set j (addT t.text r)) S.mute []) ?_ ⟨_, rfl, rfl⟩
              unfold dT hD
              rw [e, List.length_set]
              rfl
        by_cases hk4 : t.kind = 4
        · have hstp : stepB t S = some S := by unfold stepB; rw [if_neg hk1, if_neg hk2, if_neg hk3, if_pos hk4]
          rw [hstp]
          clear hc1 hc2 hcx hd1 hcy hf1
          refine awp_run hE (codeOk_2 hg1) ?_
          conv => whnf
          repeat' (first | (refine brd_t (by first | assumption | omega) ?_; conv => whnf) | (refine brd_f (by first | assumption | omega) ?_; conv => whnf) | (refine ask (by first | assumption | omega) ?_; conv => whnf) | (refine fit64 (by omega) ?_; conv => whnf) | (refine fit (by simp only [kmin, kmax]; omega) ?_; conv => whnf) | (refine br_t (by assumption) ?_; conv => whnf) | (refine br_f (by assumption) ?_; conv => whnf) | (refine get_of (by assumption) ?_; conv => whnf) | (refine get_map (by assumption) ?_; conv => whnf) | (refine draw_lex hE ?_ ?_; decide +kernel; conv => whnf) | (refine draw_any hE [⟨3, [(0, none), (1, none), (2, none), (3, none), (4, none), (5, none), (8, none), (9, none), (10, none), (6, some 0), (7, none), (11, none), (12, none), (13, none), (14, some 1), (15, none), (16, none), (17, none), (18, none), (19, some 2)], some 20, [], [[]], []⟩, ⟨0, [], some 21, [], [[]], []⟩] ?_ ?_; decide +kernel; conv => whnf) | (refine draw_any hE [⟨0, [(0, none), (1, none), (2, none), (3, none), (4, none), (5, none), (6, none), (7, none), (8, none), (9, none), (10, none), (11, none)], some 12, [], [[]], []⟩] ?_ ?_; decide +kernel; conv => whnf) | (refine brd (fun h => ?_) (fun h => ?_) <;> conv => whnf) | (refine br (fun h => ?_) (fun h => ?_) <;> conv => whnf) | (refine ret_now hE ?_; conv => whnf) | (intro hlen; conv => whnf) | (refine seg_here ?_; conv => whnf) | (refine both ?_ ?_ <;> conv => whnf))
          exact up_at [4, 5, 6, 7, 8, 26, 27, 28, 10] (σ' := dT l k t S.A S.mute []) rfl ⟨_, rfl, rfl⟩
        · have hstp : stepB t S = none := by unfold stepB; rw [if_neg hk1, if_neg hk2, if_neg hk3, if_neg hk4]
          clear hc1 hc2 hcx hd1 hcy hf1
          refine awp_run hE (codeOk_2 hg1) ?_
          conv => whnf
          repeat' (first | (refine brd_t (by first | assumption | omega) ?_; conv => whnf) | (refine brd_f (by first | assumption | omega) ?_; conv => whnf) | (refine ask (by first | assumption | omega) ?_; conv => whnf) | (refine fit64 (by omega) ?_; conv => whnf) | (refine fit (by simp only [kmin, kmax]; omega) ?_; conv => whnf) | (refine br_t (by assumption) ?_; conv => whnf) | (refine br_f (by assumption) ?_; conv => whnf) | (refine get_of (by assumption) ?_; conv => whnf) | (refine get_map (by assumption) ?_; conv => whnf) | (refine draw_lex hE ?_ ?_; decide +kernel; conv => whnf) | (refine draw_any hE [⟨3, [(0, none), (1, none), (2, none), (3, none), (4, none), (5, none), (8, none), (9, none), (10, none), (6, some 0), (7, none), (11, none), (12, none), (13, none), (14, some 1), (15, none), (16, none), (17, none), (18, none), (19, some 2)], some 20, [], [[]], []⟩, ⟨0, [], some 21, [], [[]], []⟩] ?_ ?_; decide +kernel; conv => whnf) | (refine draw_any hE [⟨0, [(0, none), (1, none), (2, none), (3, none), (4, none), (5, none), (6, none), (7, none), (8, none), (9, none), (10, none), (11, none)], some 12, [], [[]], []⟩] ?_ ?_; decide +kernel; conv => whnf) | (refine brd (fun h => ?_) (fun h => ?_) <;> conv => whnf) | (refine br (fun h => ?_) (fun h => ?_) <;> conv => whnf) | (refine ret_now hE ?_; conv => whnf) | (intro hlen; conv => whnf) | (refine seg_here ?_; conv => whnf) | (refine both ?_ ?_ <;> conv => whnf))
          exact ⟨rfl, by rw [errK hstp]; simp [V.nl, nlL]⟩
      · obtain ⟨S', hs', rfl⟩ := e5
        refine awp_run hE hd2 ?_
        conv => whnf
        repeat' (first | (refine brd_t (by first | assumption | omega) ?_; conv => whnf) | (refine brd_f (by first | assumption | omega) ?_; conv => whnf) | (refine ask (by first | assumption | omega) ?_; conv => whnf) | (refine fit64 (by omega) ?_; conv => whnf) | (refine fit (by simp only [kmin, kmax]; omega) ?_; conv => whnf) | (refine br_t (by assumption) ?_; conv => whnf) | (refine br_f (by assumption) ?_; conv => whnf) | (refine get_of (by assumption) ?_; conv => whnf) | (refine get_map (by assumption) ?_; conv => whnf) | (refine draw_lex hE ?_ ?_; decide +kernel; conv => whnf) | (refine draw_any hE [⟨3, [(0, none), (1, none), (2, none), (3, none), (4, none), (5, none), (8, none), (9, none), (10, none), (6, some 0), (7, none), (11, none), (12, none), (13, none), (14, some 1), (15, none), (16, none), (17, none), (18, none), (19, some 2)], some 20, [], [[]], []⟩, ⟨0, [], some 21, [], [[]], []⟩] ?_ ?_; decide +kernel; conv => whnf) | (refine draw_any hE [⟨0, [(0, none), (1, none), (2, none), (3, none), (4, none), (5, none), (6, none), (7, none), (8, none), (9, none), (10, none), (11, none)], some 12, [], [[]], []⟩] ?_ ?_; decide +kernel; conv => whnf) | (refine brd (fun h => ?_) (fun h => ?_) <;> conv => whnf) | (refine br (fun h => ?_) (fun h => ?_) <;> conv => whnf) | (refine ret_now hE ?_; conv => whnf) | (intro hlen; conv => whnf) | (refine seg_here ?_; conv => whnf) | (refine both ?_ ?_ <;> conv => whnf))
        · exact ⟨rfl, by rw [errS S' hs' (big _ (by assumption))]; simp [V.nl, nlL]⟩
        · exact dS_drop [4, 5, 6, 7, 8, 26, 27, 28] rfl ⟨S', hs', small _ (by assumption), rfl⟩
    · obtain ⟨S', hs', h150, rfl⟩ := e3
      refine awp_run hE hc3 ?_
      conv => whnf
      repeat' (first | (refine brd_t (by first | assumption | omega) ?_; conv => whnf) | (refine brd_f (by first | assumption | omega) ?_; conv => whnf) | (refine ask (by first | assumption | omega) ?_; conv => whnf) | (refine fit64 (by omega) ?_; conv => whnf) | (refine fit (by simp only [kmin, kmax]; omega) ?_; conv => whnf) | (refine br_t (by assumption) ?_; conv => whnf) | (refine br_f (by assumption) ?_; conv => whnf) | (refine get_of (by assumption) ?_; conv => whnf) | (refine get_map (by assumption) ?_; conv => whnf) | (refine draw_lex hE ?_ ?_; decide +kernel; conv => whnf) | (refine draw_any hE [⟨3, [(0, none), (1, none), (2, none), (3, none), (4, none), (5, none), (8, none), (9, none), (10, none), (6, some 0), (7, none), (11, none), (12, none), (13, none), (14, some 1), (15, none), (16, none), (17, none), (18, none), (19, some 2)], some 20, [], [[]], []⟩, ⟨0, [], some 21, [], [[]], []⟩] ?_ ?_; decide +kernel; conv => whnf) | (refine draw_any hE [⟨0, [(0, none), (1, none), (2, none), (3, none), (4, none), (5, none), (6, none), (7, none), (8, none), (9, none), (10, none), (11, none)], some 12, [], [[]], []⟩] ?_ ?_; decide +kernel; conv => whnf) | (refine brd (fun h => ?_) (fun h => ?_) <;> conv => whnf) | (refine br (fun h => ?_) (fun h => ?_) <;> conv => whnf) | (refine ret_now hE ?_; conv => whnf) | (intro hlen; conv => whnf) | (refine seg_here ?_; conv => whnf) | (refine both ?_ ?_ <;> conv => whnf))
      exact up_at [4, 5, 6, 7, 8, 26, 27, 28] (σ' := dS l (k + 1) S') rfl ⟨(k + 1, S'), hnx S' hs' h150, (show l.length - (k + 1) < l.length - k by omega), rfl⟩
  · have hkl : k = l.length := by omega
    have hdr : l.drop k = [] := List.drop_of_length_le (by omega)
    rw [hdr] at hR
    have hb : builtD l = .tup [.lst (nodesL (treeD S.A (S.A.length + 2) 0)), .int .i64 0] := by
      unfold builtD
      rw [hbl, hR]
      rfl
    rw [hb]
    have hw := with_fn hW (by omega) (S.A.length + 2) 0 (by omega) (by omega)
    show AWp C _ _ (dS l k S).st
    refine awp_run hE (by kernel_rfl) ?_
    conv => whnf
    repeat' (first | (refine brd_t (by first | assumption | omega) ?_; conv => whnf) | (refine brd_f (by first | assumption | omega) ?_; conv => whnf) | (refine ask (by first | assumption | omega) ?_; conv => whnf) | (refine fit64 (by omega) ?_; conv => whnf) | (refine fit (by simp only [kmin, kmax]; omega) ?_; conv => whnf) | (refine br_t (by assumption) ?_; conv => whnf) | (refine br_f (by assumption) ?_; conv => whnf) | (refine get_of (by assumption) ?_; conv => whnf) | (refine get_map (by assumption) ?_; conv => whnf) | (refine draw_lex hE ?_ ?_; decide +kernel; conv => whnf) | (refine draw_any hE [⟨3, [(0, none), (1, none), (2, none), (3, none), (4, none), (5, none), (8, none), (9, none), (10, none), (6, some 0), (7, none), (11, none), (12, none), (13, none), (14, some 1), (15, none), (16, none), (17, none), (18, none), (19, some 2)], some 20, [], [[]], []⟩, ⟨0, [], some 21, [], [[]], []⟩] ?_ ?_; decide +kernel; conv => whnf) | (refine draw_any hE [⟨0, [(0, none), (1, none), (2, none), (3, none), (4, none), (5, none), (6, none), (7, none), (8, none), (9, none), (10, none), (11, none)], some 12, [], [[]], []⟩] ?_ ?_; decide +kernel; conv => whnf) | (refine brd (fun h => ?_) (fun h => ?_) <;> conv => whnf) | (refine br (fun h => ?_) (fun h => ?_) <;> conv => whnf) | (refine ret_now hE ?_; conv => whnf) | (intro hlen; conv => whnf) | (refine seg_here ?_; conv => whnf) | (refine both ?_ ?_ <;> conv => whnf))
    refine call_up (up_to' [198] ?_)
    refine up_eq (σ' := ⟨200, [(198, .fn 16 [.ptr 0 0 0, .ptr 2 0 0])], [some (.row 1 [.sl 1 0 S.A.length]), some (.row 7 (S.A.map flV)), some (.row 1 [.fn 16 [.ptr 0 0 0, .ptr 2 0 0]]), none, none]⟩) ?_ rfl
    refine up_freeze 1 (z := 7) (els := S.A.map flV) rfl (fls_nr S.A) ?_
    refine up_eq (σ' := ⟨200, [(198, .fn 16 [.ptr 0 0 0, .ptr 2 0 0])], [some (.row 1 [.lst (S.A.map flV)]), none, some (.row 1 [.fn 16 [.ptr 0 0 0, .ptr 2 0 0]]), none, none]⟩) ?_ ?_
    rotate_left
    · simp [frzU, frzH, Ob.frz, frzL, V.frz]
      exact List.take_of_length_le (by simp)
    refine up_freeze 0 (z := 1) (els := [.lst (S.A.map flV)]) rfl ⟨trivial, trivial⟩ ?_
    refine up_eq (σ' := ⟨200, [(198, .fn 16 [.rp [.lst (S.A.map flV)], .ptr 2 0 0])], [none, none, some (.row 1 [.fn 16 [.rp [.lst (S.A.map flV)], .ptr 2 0 0]]), none, none]⟩) ?_ rfl
    refine up_move 2 0 (by decide) (o := .row 1 [.fn 16 [.rp [.lst (S.A.map flV)], .ptr 2 0 0]]) rfl rfl ?_
    refine up_eq (σ' := ⟨200, [(198, .fn 16 [.rp [.lst (S.A.map flV)], .ptr 0 0 0])], [some (.row 1 [.fn 16 [.rp [.lst (S.A.map flV)], .ptr 0 0 0]]), none, none, none, none]⟩) ?_ rfl
    refine up_here ?_
    conv => whnf
    repeat' (first | (refine brd_t (by first | assumption | omega) ?_; conv => whnf) | (refine brd_f (by first | assumption | omega) ?_; conv => whnf) | (refine ask (by first | assumption | omega) ?_; conv => whnf) | (refine fit64 (by omega) ?_; conv => whnf) | (refine fit (by simp only [kmin, kmax]; omega) ?_; conv => whnf) | (refine br_t (by assumption) ?_; conv => whnf) | (refine br_f (by assumption) ?_; conv => whnf) | (refine get_of (by assumption) ?_; conv => whnf) | (refine get_map (by assumption) ?_; conv => whnf) | (refine draw_lex hE ?_ ?_; decide +kernel; conv => whnf) | (refine draw_any hE [⟨3, [(0, none), (1, none), (2, none), (3, none), (4, none), (5, none), (8, none), (9, none), (10, none), (6, some 0), (7, none), (11, none), (12, none), (13, none), (14, some 1), (15, none), (16, none), (17, none), (18, none), (19, some 2)], some 20, [], [[]], []⟩, ⟨0, [], some 21, [], [[]], []⟩] ?_ ?_; decide +kernel; conv => whnf) | (refine draw_any hE [⟨0, [(0, none), (1, none), (2, none), (3, none), (4, none), (5, none), (6, none), (7, none), (8, none), (9, none), (10, none), (11, none)], some 12, [], [[]], []⟩] ?_ ?_; decide +kernel; conv => whnf) | (refine brd (fun h => ?_) (fun h => ?_) <;> conv => whnf) | (refine br (fun h => ?_) (fun h => ?_) <;> conv => whnf) | (refine ret_now hE ?_; conv => whnf) | (intro hlen; conv => whnf) | (refine seg_here ?_; conv => whnf) | (refine both ?_ ?_ <;> conv => whnf))
    refine call_id hw hC (by kernel_rfl) rfl (by simp [rnL, rnV, rnV_nr]) ?_ [] ?_ ?_ (rnV_nr _ trivial) ?_ rfl ?_
    · intro j o ho
      match j with
      | 0 =>
        simp at ho
        subst ho
        exact ⟨rfl, by simp [rnO, rnL, rnV, obW]⟩
      | j + 1 => simp at ho
    · intro j hj _
      simp at hj
      simp [hj]
    · intro j hj
      simp at hj
    · intro j o ho
      match j with
      | 0 =>
        simp at ho
        subst ho
        simp [rnO, rnL, rnV, obW]
      | j + 1 => simp at ho
    conv => whnf
    repeat' (first | (refine brd_t (by first | assumption | omega) ?_; conv => whnf) | (refine brd_f (by first | assumption | omega) ?_; conv => whnf) | (refine ask (by first | assumption | omega) ?_; conv => whnf) | (refine fit64 (by omega) ?_; conv => whnf) | (refine fit (by simp only [kmin, kmax]; omega) ?_; conv => whnf) | (refine br_t (by assumption) ?_; conv => whnf) | (refine br_f (by assumption) ?_; conv => whnf) | (refine get_of (by assumption) ?_; conv => whnf) | (refine get_map (by assumption) ?_; conv => whnf) | (refine draw_lex hE ?_ ?_; decide +kernel; conv => whnf) | (refine draw_any hE [⟨3, [(0, none), (1, none), (2, none), (3, none), (4, none), (5, none), (8, none), (9, none), (10, none), (6, some 0), (7, none), (11, none), (12, none), (13, none), (14, some 1), (15, none), (16, none), (17, none), (18, none), (19, some 2)], some 20, [], [[]], []⟩, ⟨0, [], some 21, [], [[]], []⟩] ?_ ?_; decide +kernel; conv => whnf) | (refine draw_any hE [⟨0, [(0, none), (1, none), (2, none), (3, none), (4, none), (5, none), (6, none), (7, none), (8, none), (9, none), (10, none), (11, none)], some 12, [], [[]], []⟩] ?_ ?_; decide +kernel; conv => whnf) | (refine brd (fun h => ?_) (fun h => ?_) <;> conv => whnf) | (refine br (fun h => ?_) (fun h => ?_) <;> conv => whnf) | (refine ret_now hE ?_; conv => whnf) | (intro hlen; conv => whnf) | (refine seg_here ?_; conv => whnf) | (refine both ?_ ?_ <;> conv => whnf))
    exact ⟨rfl, by simp [V.nl, nlL, nl_nodes]⟩
end Go.Proofs.YtbdogoccjcifnaaDoor
