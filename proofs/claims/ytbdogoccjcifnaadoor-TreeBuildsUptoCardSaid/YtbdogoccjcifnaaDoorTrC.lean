/- The builder's chars, walked in place. No conditions. -/
import Derived.Test.YtbdogoccjcifnaaDoorOwn
import Derived.Test.YtbdogoccjcifnaaDoorTrB
/-! slices.Clone at attributes. No conditions. -/
set_option linter.unusedSimpArgs false
set_option linter.unusedVariables false
set_option maxRecDepth 100000
namespace Go.Proofs.YtbdogoccjcifnaaDoor
open Go.RowKit

theorem clone_atts (l : List Atr) (hl : l.length * 32 ≤ 140737488351232) : Fn1 Tryd.prog 19 [.lst (l.map attA)] (fun r => r = .lst (l.map attA)) := by
  have hlm : (l.map attA).length = l.length := by simp
  have hkl : killL 0 (List.take 0 (List.drop 0 []) ++ l.map attA) = l.map attA := by simp only [List.drop_nil, List.take_nil, List.nil_append, kill_atts]
  refine fn1_nl ?_
  refine fn1E (T := Tryd.tt) Tryd.func19 rfl tt_all follows_all ?_ ?_ fun C hC hE => ?_
  · kernel_rfl
  · exact Nat.le_of_ble_eq_true (by kernel_rfl)
  conv => whnf
  repeat' (first | (refine brd_t (by first | assumption | omega) ?_; conv => whnf) | (refine brd_f (by first | assumption | omega) ?_; conv => whnf) | (refine ask (by first | assumption | omega) ?_; conv => whnf) | (refine fit64 (by omega) ?_; conv => whnf) | (refine fit (by simp only [kmin, kmax]; omega) ?_; conv => whnf) | (refine br_t (by assumption) ?_; conv => whnf) | (refine br_f (by assumption) ?_; conv => whnf) | (refine get_of (by assumption) ?_; conv => whnf) | (refine get_map (by assumption) ?_; conv => whnf) | (refine ⟨cells_att l, ?_⟩; conv => whnf) | (refine ret_up (up_frzK 0 2 [] rfl ?_ rfl ?_ rfl (up_here ?_)); (rw [hkl]; exact nr_atts l); (rw [hkl]; omega)) | (refine draw_lex hE ?_ ?_; decide +kernel; conv => whnf) | (refine brd (fun h => ?_) (fun h => ?_) <;> conv => whnf) | (refine br (fun h => ?_) (fun h => ?_) <;> conv => whnf) | (refine ret_now hE ?_; conv => whnf) | (intro hlen; conv => whnf) | (refine seg_here ?_; conv => whnf) | (refine both ?_ ?_ <;> conv => whnf))
  · refine ⟨rfl, ?_⟩
    rw [hlen (by assumption)]
    simp [V.nl, nlL]
  · refine ⟨rfl, ?_⟩
    rw [hkl]
    simp [V.nl, nl_atts]
end Go.Proofs.YtbdogoccjcifnaaDoor

/-! The builder's start, walked in place. No conditions. -/
namespace Go.Proofs.YtbdogoccjcifnaaDoor
open Go.RowKit

section
variable {C : Ctx} {σ : ES} {fop : Operand} {args : List Operand} {K : V → ES → Prop}
def tokL (t : Tk) (b : Bool) : V := .agg [.int .i64 t.kind, .str t.name, .lst (t.attrs.map attA), .bool b, .str t.text]
theorem tokL_kill (t : Tk) (b : Bool) (id : Nat) : (tokL t b).kill id = tokL t b := by simp [tokL, V.kill, killL]
theorem tokL_frz (t : Tk) (b : Bool) (id : Nat) (els : List V) : (tokL t b).frz id els = tokL t b := by simp [tokL, V.frz, frzL]
theorem tokL_mv (t : Tk) (b : Bool) (id j : Nat) : (tokL t b).mv id j = tokL t b := by simp [tokL, V.mv, mvL]
/-- The state of start's walk. -/
def stS (t : Tk) (b : Bool) (vs : List Value) (L : List V) (T : List (Option Ob)) (A : List Rc) (mute : List UInt8) (o5 o6 o7 : Option Ob) (u : List (Nat × V)) : ES :=
  ⟨110, (0, .ptr 0 0 0) :: (3, .ptr 4 0 0) :: u, some (.row 4 [.agg [.ptr 8 0 0, .sl 1 0 (stk A).length, .int .i64 A.length, .str mute]]) :: some (.row 1 ((stk A).map ptV)) :: some (.row 5 [tokL t b]) :: some (.hid vs L) :: some (.row 5 [tokL t b]) :: o5 :: o6 :: o7 :: T⟩
/-- The same, the builder, the stack and the rest as they are. -/
def stG (t : Tk) (b : Bool) (vs : List Value) (L : List V) (bo so : V) (sr : List V) (cn : Int) (o6 o7 : Option Ob) (T : List (Option Ob)) (u : List (Nat × V)) : ES :=
  ⟨110, (0, .ptr 0 0 0) :: (3, .ptr 4 0 0) :: u, some (.row 4 [.agg [bo, so, .int .i64 cn, .str []]]) :: some (.row 1 sr) :: some (.row 5 [tokL t b]) :: some (.hid vs L) :: some (.row 5 [tokL t b]) :: none :: o6 :: o7 :: T⟩
theorem drop4 (t : Tk) (b : Bool) (vs : List Value) {L : List V} {T : List (Option Ob)} (hL : killL 4 L = L) (hT4 : killH 4 T = T) (A : List Rc) (mute : List UInt8) : (⟨110, (keepU [] []).map fun p => (p.1, p.2.kill 4), (killH 4 (stS t b vs L T A mute none none none []).heap).set 4 none⟩ : ES) =
    ⟨110, [], some (.row 4 [.agg [.ptr 8 0 0, .sl 1 0 (stk A).length, .int .i64 A.length, .str mute]]) :: some (.row 1 ((stk A).map ptV)) :: some (.row 5 [tokL t b]) :: some (.hid vs L) :: none :: none :: none :: none :: T⟩ := by
  unfold stS
  simp only [killH, Ob.kill, killL, tokL_kill, hL, pts_kill (show 4 < 8 by decide), hT4]
  simp [V.kill, killL, keepU]
set_option maxHeartbeats 16000000 in
theorem call_start (t : Tk) (s : Bs) (hW : Wf s.A) (hA : s.A.length ≤ 900) (hat : t.attrs.length * 32 ≤ 140737488351232) (hE : EOk Tryd.tt C) (hC : C.P = Tryd.prog)
    (hGb : FnC C 18 [.gsl 0 9, .str t.name] (fun r => r = .bool (decide (t.name ∈ blkL)))) (hGv : FnC C 18 [.gsl 1 4, .str t.name] (fun r => r = .bool (decide (t.name ∈ vodL))))
    (ks : List Nat) (hks : (ks.all fun k => Nat.blt k σ.n) = true) (hL8 : ∀ k, (k = 1 ∨ 8 ≤ k) → killL k (ks.map (lookU σ.u)) = ks.map (lookU σ.u)) {b : Bool} (hb : t.self = b) (he : evalC σ fop args = some (7, [.ptr 0 0 0, .agg [.int .i64 t.kind, .str t.name, .lst (t.attrs.map attA), .bool b, .str t.text]])) 
    {T0 : List (Option Ob)} (hT0 : obA s.A = T0) (hh : σ.heap = some (bO s.A s.mute) :: some (sO s.A) :: some (.row 5 [tokL t b]) :: none :: none :: none :: none :: none :: T0)
    (hK : zipK ks (ks.map (lookU σ.u)) fun u => fH (some (bO (startB t s).A (startB t s).mute) :: some (sO (startB t s).A) :: some (.row 5 [tokL t b]) :: none :: none :: none :: none :: none :: obA (startB t s).A) fun h => K (.tup []) ⟨σ.n, u, h⟩) :
    CallN C fop args 7 [.ptr 0 0 0, .agg [.int .i64 t.kind, .str t.name, .lst (t.attrs.map attA), .bool b, .str t.text]] K σ := by
  obtain ⟨n, u, h⟩ := σ
  subst hT0
  simp only at hh hK hks
  subst hh
  rw [zipK_eq, fH_eq] at hK
  refine call_inA (T := Tryd.tt) hC Tryd.func7 rfl hasBody_7 he (Nat.le_of_ble_eq_true (by kernel_rfl)) 3 ks rfl hks fun vs hfree => ?_
  have hcl := clone_atts t.attrs hat
  obtain ⟨A0, mute⟩ := s
  simp only at *
  generalize hT : obA A0 = T at *
  generalize ks.map (lookU u) = L at *
  have hL4 := (hfree 4 rfl).1
  have hL5 := (hfree 5 rfl).2.2
  have hLk5 := (hfree 5 rfl).1
  have hc0 : codeOk (((Tryd.f7).body).getD .skip) = true := by kernel_rfl
  -- the token's box
  refine awp_cut hE (fun σ => σ = stS t b vs L T A0 mute none none none []) hc0 ?_ fun hc1 σ1 e1 => ?_
  · unfold bO sO
    conv => whnf
    repeat' (first | (refine brd_t (by first | assumption | omega) ?_; conv => whnf) | (refine brd_f (by first | assumption | omega) ?_; conv => whnf) | (refine ask (by first | assumption | omega) ?_; conv => whnf) | (refine fit64 (by omega) ?_; conv => whnf) | (refine fit (by simp only [kmin, kmax]; omega) ?_; conv => whnf) | (refine br_t (by assumption) ?_; conv => whnf) | (refine br_f (by assumption) ?_; conv => whnf) | (refine get_of (by assumption) ?_; conv => whnf) | (refine get_map (by assumption) ?_; conv => whnf) | (refine fH_go ?_; conv => whnf) | (refine fL0_go ?_; conv => whnf) | (refine draw_lex hE ?_ ?_; decide +kernel; conv => whnf) | (refine brd (fun h => ?_) (fun h => ?_) <;> conv => whnf) | (refine br (fun h => ?_) (fun h => ?_) <;> conv => whnf) | (refine ret_now hE ?_; conv => whnf) | (intro hlen; conv => whnf) | (refine seg_here ?_; conv => whnf) | (refine both ?_ ?_ <;> conv => whnf))
    exact up_at [0, 3] rfl rfl
  subst e1
  refine awp_cut hE (fun σ => σ = stS t b vs L T A0 [] none none none []) hc1 ?_ fun hc2 σ2 e2 => ?_
  · conv => whnf
    repeat' (first | (refine brd_t (by first | assumption | omega) ?_; conv => whnf) | (refine brd_f (by first | assumption | omega) ?_; conv => whnf) | (refine ask (by first | assumption | omega) ?_; conv => whnf) | (refine fit64 (by omega) ?_; conv => whnf) | (refine fit (by simp only [kmin, kmax]; omega) ?_; conv => whnf) | (refine br_t (by assumption) ?_; conv => whnf) | (refine br_f (by assumption) ?_; conv => whnf) | (refine get_of (by assumption) ?_; conv => whnf) | (refine get_map (by assumption) ?_; conv => whnf) | (refine fH_go ?_; conv => whnf) | (refine fL0_go ?_; conv => whnf) | (refine draw_lex hE ?_ ?_; decide +kernel; conv => whnf) | (refine brd (fun h => ?_) (fun h => ?_) <;> conv => whnf) | (refine br (fun h => ?_) (fun h => ?_) <;> conv => whnf) | (refine ret_now hE ?_; conv => whnf) | (intro hlen; conv => whnf) | (refine seg_here ?_; conv => whnf) | (refine both ?_ ?_ <;> conv => whnf))
    exact up_at [0, 3] rfl rfl
  subst e2
  -- blocks
  refine awp_cut hE (fun σ => σ = stS t b vs L T (blkA t A0) [] none none none []) hc2 ?_ fun hc3 σ3 e3 => ?_
  · by_cases hblk : t.name ∈ blkL
    · have hblk' := decide_eq_true hblk
      conv => whnf
      repeat' (first | (refine brd_t (by first | assumption | omega) ?_; conv => whnf) | (refine brd_f (by first | assumption | omega) ?_; conv => whnf) | (refine ask (by first | assumption | omega) ?_; conv => whnf) | (refine fit64 (by omega) ?_; conv => whnf) | (refine fit (by simp only [kmin, kmax]; omega) ?_; conv => whnf) | (refine br_t (by assumption) ?_; conv => whnf) | (refine br_f (by assumption) ?_; conv => whnf) | (refine get_of (by assumption) ?_; conv => whnf) | (refine get_map (by assumption) ?_; conv => whnf) | (refine fH_go ?_; conv => whnf) | (refine fL0_go ?_; conv => whnf) | (refine callc_eq (hGb) hC hasBody_18 rfl ?_ ?_ ?_; kernel_rfl; kernel_rfl; conv => whnf) | (refine callcq_eq (hGb) hC hasBody_18 rfl ?_ ?_ ?_; kernel_rfl; kernel_rfl; conv => whnf) | (refine call_find A0 [] _ hW.opn hC (by kernel_rfl) rfl rfl (fun _ => by rw [hT]; rfl) ?_; conv => whnf) | (refine call_close A0 [] [112] (by omega) hE hC [0, 3] rfl rfl rfl ?_; conv => whnf) | (refine draw_lex hE ?_ ?_; decide +kernel; conv => whnf) | (refine brd (fun h => ?_) (fun h => ?_) <;> conv => whnf) | (refine br (fun h => ?_) (fun h => ?_) <;> conv => whnf) | (refine ret_now hE ?_; conv => whnf) | (intro hlen; conv => whnf) | (refine seg_here ?_; conv => whnf) | (refine both ?_ ?_ <;> conv => whnf))
      refine up_at [0, 3] ?_ rfl
      unfold stS blkA
      rw [if_pos hblk]
      rfl
    · have hblk' := decide_eq_false hblk
      conv => whnf
      repeat' (first | (refine brd_t (by first | assumption | omega) ?_; conv => whnf) | (refine brd_f (by first | assumption | omega) ?_; conv => whnf) | (refine ask (by first | assumption | omega) ?_; conv => whnf) | (refine fit64 (by omega) ?_; conv => whnf) | (refine fit (by simp only [kmin, kmax]; omega) ?_; conv => whnf) | (refine br_t (by assumption) ?_; conv => whnf) | (refine br_f (by assumption) ?_; conv => whnf) | (refine get_of (by assumption) ?_; conv => whnf) | (refine get_map (by assumption) ?_; conv => whnf) | (refine fH_go ?_; conv => whnf) | (refine fL0_go ?_; conv => whnf) | (refine callc_eq (hGb) hC hasBody_18 rfl ?_ ?_ ?_; kernel_rfl; kernel_rfl; conv => whnf) | (refine callcq_eq (hGb) hC hasBody_18 rfl ?_ ?_ ?_; kernel_rfl; kernel_rfl; conv => whnf) | (refine draw_lex hE ?_ ?_; decide +kernel; conv => whnf) | (refine brd (fun h => ?_) (fun h => ?_) <;> conv => whnf) | (refine br (fun h => ?_) (fun h => ?_) <;> conv => whnf) | (refine ret_now hE ?_; conv => whnf) | (intro hlen; conv => whnf) | (refine seg_here ?_; conv => whnf) | (refine both ?_ ?_ <;> conv => whnf))
      refine up_at [0, 3] ?_ rfl
      unfold stS blkA
      rw [if_neg hblk]
      rfl
  subst e3
  have hW1 : Wf (blkA t A0) := by unfold blkA; split; exact hW.shut _; exact hW
  have hA1 : (blkA t A0).length = A0.length := by unfold blkA; split; exact shutO_len _ _; rfl
  have hT1 : obA (blkA t A0) = T := by unfold blkA; split; exact (obA_shut _ _).trans hT; exact hT
  have hB : startB t ⟨A0, mute⟩ = if 10 ≤ cntO (liA t (blkA t A0)) then ⟨liA t (blkA t A0), if t.self = false ∧ t.name ∈ rawT then t.name else []⟩ else ⟨liA t (blkA t A0) ++ [newE t (liA t (blkA t A0))], []⟩ := rfl
  rw [hB] at hK
  clear hB
  rw [← hA1] at hA
  clear hT
  have hT := hT1
  clear hT1
  generalize blkA t A0 = A1 at *
  clear hA1 hW
  -- li
  refine awp_cut hE (fun σ => σ = stS t b vs L T (liA t A1) [] none none none []) hc3 ?_ fun hc4 σ4 e4 => ?_
  · have hend : ¬ liP t A1 → stS t b vs L T A1 [] none none none [] = stS t b vs L T (liA t A1) [] none none none [] := fun h => by unfold liA; rw [if_neg h]
    have hyes : liP t A1 → stS t b vs L T (shutO A1 (lastN A1 [108, 105])) [] none none none [] = stS t b vs L T (liA t A1) [] none none none [] := fun h => by unfold liA; rw [if_pos h]
    conv => whnf
    repeat' (first | (refine brd_t (by first | assumption | omega) ?_; conv => whnf) | (refine brd_f (by first | assumption | omega) ?_; conv => whnf) | (refine ask (by first | assumption | omega) ?_; conv => whnf) | (refine fit64 (by omega) ?_; conv => whnf) | (refine fit (by simp only [kmin, kmax]; omega) ?_; conv => whnf) | (refine br_t (by assumption) ?_; conv => whnf) | (refine br_f (by assumption) ?_; conv => whnf) | (refine get_of (by assumption) ?_; conv => whnf) | (refine get_map (by assumption) ?_; conv => whnf) | (refine fH_go ?_; conv => whnf) | (refine fL0_go ?_; conv => whnf) | (refine call_find A1 [] _ hW1.opn hC (by kernel_rfl) rfl rfl (fun _ => by rw [hT]; rfl) ?_; conv => whnf) | (refine call_close A1 [] [108, 105] (by omega) hE hC [0, 3] rfl rfl rfl ?_; conv => whnf) | (refine draw_lex hE ?_ ?_; decide +kernel; conv => whnf) | (refine brd (fun h => ?_) (fun h => ?_) <;> conv => whnf) | (refine br (fun h => ?_) (fun h => ?_) <;> conv => whnf) | (refine ret_now hE ?_; conv => whnf) | (intro hlen; conv => whnf) | (refine seg_here ?_; conv => whnf) | (refine both ?_ ?_ <;> conv => whnf))
    all_goals first
      | (refine up_at [0, 3] (Eq.trans ?_ (hyes ⟨by assumption, Int.ofNat_lt.1 (by assumption), Int.ofNat_lt.1 (by assumption)⟩)) rfl; rfl)
      | exact up_at [0, 3] (hend fun ⟨h1, h2, h3⟩ => by first | exact absurd h1 (by assumption) | exact absurd (Int.ofNat_lt.2 h2) (by assumption) | exact absurd (Int.ofNat_lt.2 h3) (by assumption)) rfl
  subst e4
  have hW2 : Wf (liA t A1) := by unfold liA; split; exact hW1.shut _; exact hW1
  have hA2 : (liA t A1).length = A1.length := by unfold liA; split; exact shutO_len _ _; rfl
  have hT1 : obA (liA t A1) = T := by unfold liA; split; exact (obA_shut _ _).trans hT; exact hT
  rw [← hA2] at hA
  clear hT
  have hT := hT1
  clear hT1
  generalize liA t A1 = A2 at *
  clear hA2 hW1
  have hsl := stk_len A2
  -- too deep
  refine awp_cut hE (fun σ => ¬ 10 ≤ cntO A2 ∧ σ = stS t b vs L T A2 [] none none none []) hc4 ?_ fun hc5 σ5 e5 => ?_
  · conv => whnf
    repeat' (first | (refine brd_t (by first | assumption | omega) ?_; conv => whnf) | (refine brd_f (by first | assumption | omega) ?_; conv => whnf) | (refine ask (by first | assumption | omega) ?_; conv => whnf) | (refine fit64 (by omega) ?_; conv => whnf) | (refine fit (by simp only [kmin, kmax]; omega) ?_; conv => whnf) | (refine br_t (by assumption) ?_; conv => whnf) | (refine br_f (by assumption) ?_; conv => whnf) | (refine get_of (by assumption) ?_; conv => whnf) | (refine get_map (by assumption) ?_; conv => whnf) | (refine fH_go ?_; conv => whnf) | (refine fL0_go ?_; conv => whnf) | (refine inret_up (up_to' [] (up_drop 4 (up_eq (up_here (inret_at hE ?_)) (drop4 t b vs hL4 (hT ▸ obA_kill (show 4 < 8 by decide) A2) A2 _)))); conv => whnf) | (refine draw_lex hE ?_ ?_; decide +kernel; conv => whnf) | (refine brd (fun h => ?_) (fun h => ?_) <;> conv => whnf) | (refine br (fun h => ?_) (fun h => ?_) <;> conv => whnf) | (refine ret_now hE ?_; conv => whnf) | (intro hlen; conv => whnf) | (refine seg_here ?_; conv => whnf) | (refine both ?_ ?_ <;> conv => whnf))
    all_goals first
      | exact up_at [0, 3] (σ' := stS t b vs L T A2 [] none none none []) rfl ⟨by omega, rfl⟩
      | (rw [if_pos (by omega), if_pos ⟨by simp [*], by simp [rawT, scrN, styN, *]⟩] at hK; simp only [hT] at hK; exact ⟨rfl, hK⟩)
      | (rw [if_pos (by omega), if_neg (fun h => by simp_all [rawT, scrN, styN])] at hK; simp only [hT] at hK; exact ⟨rfl, hK⟩)
      | trace_state
  obtain ⟨hd, e5⟩ := e5
  subst e5
  rw [if_neg hd] at hK
  -- the new element
  refine awp_cut hE (fun σ => σ = stS t b vs L T A2 [] none (some (.row 4 [.agg [.rp [.str t.name, .lst (t.attrs.map attA), .str [], .nils], .nils, .str [], .bool true]])) none [(5, .ptr 6 0 0)]) hc5 ?_ fun hc6 σ6 e6 => ?_
  · conv => whnf
    repeat' (first | (refine brd_t (by first | assumption | omega) ?_; conv => whnf) | (refine brd_f (by first | assumption | omega) ?_; conv => whnf) | (refine ask (by first | assumption | omega) ?_; conv => whnf) | (refine fit64 (by omega) ?_; conv => whnf) | (refine fit (by simp only [kmin, kmax]; omega) ?_; conv => whnf) | (refine br_t (by assumption) ?_; conv => whnf) | (refine br_f (by assumption) ?_; conv => whnf) | (refine get_of (by assumption) ?_; conv => whnf) | (refine get_map (by assumption) ?_; conv => whnf) | (refine fH_go ?_; conv => whnf) | (refine fL0_go ?_; conv => whnf) | (refine callq_eq hcl hC hasBody_19 ?_ ?_ ?_; kernel_rfl; kernel_rfl; conv => whnf) | (refine draw_lex hE ?_ ?_; decide +kernel; conv => whnf) | (refine brd (fun h => ?_) (fun h => ?_) <;> conv => whnf) | (refine br (fun h => ?_) (fun h => ?_) <;> conv => whnf) | (refine ret_now hE ?_; conv => whnf) | (intro hlen; conv => whnf) | (refine seg_here ?_; conv => whnf) | (refine both ?_ ?_ <;> conv => whnf))
    refine up_to' [0, 3, 5] (up_eq (σ' := stS t b vs L T A2 [] (some (.row 4 [.agg [.str t.name, .lst (t.attrs.map attA), .str [], .nils]])) (some (.row 4 [.agg [.ptr 5 0 0, .nils, .str [], .bool true]])) none [(5, .ptr 6 0 0)])
      (up_freeze 5 (z := 4) (els := [.agg [.str t.name, .lst (t.attrs.map attA), .str [], .nils]]) rfl ⟨⟨trivial, trivial, trivial, trivial, trivial⟩, trivial⟩ (up_at [0, 3, 5] ?_ rfl)) rfl)
    have hT5 : ∀ els, frzH 5 els T = T := fun els => hT ▸ obA_frz els (show 5 < 8 by decide) A2
    unfold stS
    simp only [frzH, Ob.frz, frzL, tokL_frz, hL5, pts_frz _ (show 5 < 8 by decide), hT5]
    simp [V.frz, frzL, keepU, frzU, lookU, V.cells]
  subst e6
  -- the last open one
  refine awp_cut hE (fun σ => σ = stS t b vs L T A2 [] none (some (.row 4 [.agg [.rp [.str t.name, .lst (t.attrs.map attA), .str [], .nils], .nils, .str [], .bool true]])) none [(5, .ptr 6 0 0), (6, ptV (topI A2))]) hc6 ?_ fun hc7 σ7 e7 => ?_
  · conv => whnf
    repeat' (first | (refine brd_t (by first | assumption | omega) ?_; conv => whnf) | (refine brd_f (by first | assumption | omega) ?_; conv => whnf) | (refine ask (by first | assumption | omega) ?_; conv => whnf) | (refine fit64 (by omega) ?_; conv => whnf) | (refine fit (by simp only [kmin, kmax]; omega) ?_; conv => whnf) | (refine br_t (by assumption) ?_; conv => whnf) | (refine br_f (by assumption) ?_; conv => whnf) | (refine get_of (by assumption) ?_; conv => whnf) | (refine get_map (by assumption) ?_; conv => whnf) | (refine fH_go ?_; conv => whnf) | (refine fL0_go ?_; conv => whnf) | (refine call_last A2 [] (by omega) hE hC [0, 3, 5] rfl rfl rfl ?_; conv => whnf) | (refine draw_lex hE ?_ ?_; decide +kernel; conv => whnf) | (refine brd (fun h => ?_) (fun h => ?_) <;> conv => whnf) | (refine br (fun h => ?_) (fun h => ?_) <;> conv => whnf) | (refine ret_now hE ?_; conv => whnf) | (intro hlen; conv => whnf) | (refine seg_here ?_; conv => whnf) | (refine both ?_ ?_ <;> conv => whnf))
    exact up_at [0, 3, 5, 6] rfl rfl
  subst e7
  -- it is put into it
  have hpn : topI A2 < A2.length + 1 := by have := topI_le A2; omega
  have hml := kids_len (topI A2) A2
  have hg1 : T[2 * topI A2]? = some (some (.row 4 [.agg [ndV (recO A2 (topI A2)), .sl (2 * topI A2 + 9) 0 (kids (topI A2) A2).length, .str (recO A2 (topI A2)).text, .bool (recO A2 (topI A2)).elem]])) := hT ▸ obG_f (stV A2) (kdV A2) hpn
  have hg2 : T[2 * topI A2 + 1]? = some (some (.row 1 ((kids (topI A2) A2).map ptV))) := hT ▸ obG_g (stV A2) (kdV A2) hpn
  have hg3 : ∀ kv, (obP A2 (topI A2) (stAny A2 (topI A2)) kv)[2 * topI A2]? = some (some (.row 4 [.agg [ndV (recO A2 (topI A2)), .any, .str (recO A2 (topI A2)).text, .bool (recO A2 (topI A2)).elem]])) := fun kv => obP_get hpn _ kv
  have hkm : ((kids (topI A2) A2).map ptV).length = (kids (topI A2) A2).length := by simp
  generalize hpt : topI A2 = p at *
  have hLp := hL8 (2 * p + 9) (.inr (by omega))
  have hL1 := hL8 1 (.inl rfl)
  have hTp := obA_part A2 p (.ptr 6 0 0)
  rw [hT] at hTp
  have hTs := obP_set A2 p (stAny A2 p) (stMore A2 p) (.ptr 6 0 0)
  generalize hT2 : obP A2 p (stMore A2 p) (.ptr 6 0 0) = T2 at *
  have hg3 := hg3 (.ptr 6 0 0)
  generalize obP A2 p (stAny A2 p) (.ptr 6 0 0) = T1 at *
  refine awp_cut hE (fun σ => σ = stG t b vs L (.ptr 8 0 0) (.sl 1 0 (stk A2).length) ((stk A2).map ptV) A2.length (some (.row 4 [.agg [.rp [.str t.name, .lst (t.attrs.map attA), .str [], .nils], .nils, .str [], .bool true]])) none T2 [(5, .ptr 6 0 0)]) hc7 ?_ fun hc8 σ8 e8 => ?_
  · rcases ndV_cases (recO A2 p) with hnd | ⟨sn, ln, hnd⟩
    all_goals
      rw [hnd] at hg1 hg3
      conv => whnf
      repeat' (first | (refine brd_t (by first | assumption | omega) ?_; conv => whnf) | (refine brd_f (by first | assumption | omega) ?_; conv => whnf) | (refine ask (by first | assumption | omega) ?_; conv => whnf) | (refine fit64 (by omega) ?_; conv => whnf) | (refine fit (by simp only [kmin, kmax]; omega) ?_; conv => whnf) | (refine br_t (by assumption) ?_; conv => whnf) | (refine br_f (by assumption) ?_; conv => whnf) | (refine get_of (by assumption) ?_; conv => whnf) | (refine get_map (by assumption) ?_; conv => whnf) | (refine fH_go ?_; conv => whnf) | (refine fL0_go (fH_go ?_); conv => whnf) | (refine get_of hg1 ?_; conv => whnf) | (refine get_of hg2 ?_; conv => whnf) | (refine get_of (hg3 _) ?_; conv => whnf) | (refine ask (Nat.le_refl 1) ?_; conv => whnf) | (refine draw_lex hE ?_ ?_; decide +kernel; conv => whnf) | (refine brd (fun h => ?_) (fun h => ?_) <;> conv => whnf) | (refine br (fun h => ?_) (fun h => ?_) <;> conv => whnf) | (refine ret_now hE ?_; conv => whnf) | (intro hlen; conv => whnf) | (refine seg_here ?_; conv => whnf) | (refine both ?_ ?_ <;> conv => whnf))
      refine app_as (u' := [(79, .sl 5 0 1), (78, .ptr 6 0 0), (77, .any), (76, .ptr (2 * p + 8) 0 1), (75, .ptr (2 * p + 8) 0 0), (74, .ptr (2 * p + 8) 0 0), (73, .ptr (2 * p + 8) 0 0), (0, .ptr 0 0 0), (3, .ptr 4 0 0), (5, .ptr 6 0 0), (6, .ptr (2 * p + 8) 0 0)])
        (h' := some (.row 4 [.agg [.ptr 8 0 0, .sl 1 0 (stk A2).length, .int .i64 A2.length, .str []]]) :: some (.row 1 ((stk A2).map ptV)) :: some (.row 5 [tokL t b]) :: some (.hid vs L) :: some (.row 5 [tokL t b]) :: some (.row 1 [.ptr 6 0 0]) :: some (.row 4 [.agg [.rp [.str t.name, .lst (t.attrs.map attA), .str [], .nils], .nils, .str [], .bool true]]) :: none :: T1) ⟨?_, ?_, ?_⟩ ?_ ?_ ?_
      · omega
      · show _ + 1 ≤ 9223372036854775807; omega
      · show (_ + 1) * 8 ≤ 140737488355328; omega
      · simp [V.kill, ptV]
      · have e : ∀ (b0 b1 b2 b3 b4 b5 b6 b7 : Option Ob) (h : List (Option Ob)) (o : Option Ob), (b0 :: b1 :: b2 :: b3 :: b4 :: b5 :: b6 :: b7 :: h).set (2 * p + 9) o = b0 :: b1 :: b2 :: b3 :: b4 :: b5 :: b6 :: b7 :: h.set (2 * p + 1) o := fun _ _ _ _ _ _ _ _ _ _ => rfl
        simp only [putOb, killH]
        rw [e]
        simp only [Ob.kill, killL, tokL_kill, pts_killp, hLp]
        rw [List.drop_zero, List.drop_zero, ← hkm, List.take_length, killL_app, pts_killp]
        have e1 : killL (2 * p + 9) (List.take 1 [V.ptr 6 0 0]) = [.ptr 6 0 0] := by simp [killL, V.kill]
        rw [e1, hTp]
        simp [V.kill, killL]
      · conv => whnf
        repeat' (first | (refine brd_t (by first | assumption | omega) ?_; conv => whnf) | (refine brd_f (by first | assumption | omega) ?_; conv => whnf) | (refine ask (by first | assumption | omega) ?_; conv => whnf) | (refine fit64 (by omega) ?_; conv => whnf) | (refine fit (by simp only [kmin, kmax]; omega) ?_; conv => whnf) | (refine br_t (by assumption) ?_; conv => whnf) | (refine br_f (by assumption) ?_; conv => whnf) | (refine get_of (by assumption) ?_; conv => whnf) | (refine get_map (by assumption) ?_; conv => whnf) | (refine fH_go ?_; conv => whnf) | (refine fL0_go (fH_go ?_); conv => whnf) | (refine get_of hg3 ?_; conv => whnf) | (refine draw_lex hE ?_ ?_; decide +kernel; conv => whnf) | (refine brd (fun h => ?_) (fun h => ?_) <;> conv => whnf) | (refine br (fun h => ?_) (fun h => ?_) <;> conv => whnf) | (refine ret_now hE ?_; conv => whnf) | (intro hlen; conv => whnf) | (refine seg_here ?_; conv => whnf) | (refine both ?_ ?_ <;> conv => whnf))
        refine up_to' [0, 3, 5] (up_eq (σ' := ⟨110, [(0, .ptr 0 0 0), (3, .ptr 4 0 0), (5, .ptr 6 0 0)], some (.row 4 [.agg [.ptr 8 0 0, .sl 1 0 (stk A2).length, .int .i64 A2.length, .str []]]) :: some (.row 1 ((stk A2).map ptV)) :: some (.row 5 [tokL t b]) :: some (.hid vs L) :: some (.row 5 [tokL t b]) :: some (.row 1 [.ptr 6 0 0]) :: some (.row 4 [.agg [.rp [.str t.name, .lst (t.attrs.map attA), .str [], .nils], .nils, .str [], .bool true]]) :: none :: T2⟩) (up_drop 5 (up_at [0, 3, 5] ?_ rfl)) ?_)
        · have hk5 : killH 5 T2 = T2 := by rw [← hT2]; exact obP_kill (by decide) (by simp [V.kill])
          unfold stG
          simp only [killH, Ob.kill, killL, tokL_kill, hLk5, hk5, pts_kill (show 5 < 8 by decide)]
          simp [V.kill, killL, keepU, lookU]
        · rw [← hTs]
          unfold stMore
          rw [hnd]
          rfl
  subst e8
  refine awp_cut hE (fun σ => σ = stG t b vs L (.ptr 8 0 0) (.sl 1 0 (stk A2).length) ((stk A2).map ptV) ((A2.length : Int) + 1) (some (.row 4 [.agg [.rp [.str t.name, .lst (t.attrs.map attA), .str [], .nils], .nils, .str [], .bool true]])) none T2 [(5, .ptr 6 0 0)]) hc8 ?_ fun hc9 σ9 e9 => ?_
  · conv => whnf
    repeat' (first | (refine brd_t (by first | assumption | omega) ?_; conv => whnf) | (refine brd_f (by first | assumption | omega) ?_; conv => whnf) | (refine ask (by first | assumption | omega) ?_; conv => whnf) | (refine fit64 (by omega) ?_; conv => whnf) | (refine fit (by simp only [kmin, kmax]; omega) ?_; conv => whnf) | (refine br_t (by assumption) ?_; conv => whnf) | (refine br_f (by assumption) ?_; conv => whnf) | (refine get_of (by assumption) ?_; conv => whnf) | (refine get_map (by assumption) ?_; conv => whnf) | (refine fH_go ?_; conv => whnf) | (refine fL0_go (fH_go ?_); conv => whnf) | (refine draw_lex hE ?_ ?_; decide +kernel; conv => whnf) | (refine brd (fun h => ?_) (fun h => ?_) <;> conv => whnf) | (refine br (fun h => ?_) (fun h => ?_) <;> conv => whnf) | (refine ret_now hE ?_; conv => whnf) | (intro hlen; conv => whnf) | (refine seg_here ?_; conv => whnf) | (refine both ?_ ?_ <;> conv => whnf))
    exact up_at [0, 3, 5] rfl rfl
  subst e9
  have hk4 : killH 4 T2 = T2 := by rw [← hT2]; exact obP_kill (by decide) (by simp [V.kill])
  have hk5 : killH 5 T2 = T2 := by rw [← hT2]; exact obP_kill (by decide) (by simp [V.kill])
  have hk1 : killH 1 T2 = T2 := by rw [← hT2]; exact obP_kill (by decide) (by simp [V.kill])
  have fin : ∀ (o : Bool) (u : List (Nat × V)) (sr : List V) (k : Nat) (j5 : Option Ob), (!t.self && !decide (t.name ∈ vodL)) = o → sr = (stk A2).map ptV ++ (if o = true then [.ptr 6 0 0] else []) → k = (stk A2).length + (if o = true then 1 else 0) → (j5 = none ∨ j5 = some (.row 1 [.ptr 6 0 0])) →
      InRetN Tryd.tt C Tryd.f7 3 n ks vs K ⟨110, u, some (.row 4 [.agg [.ptr 8 0 0, .sl 1 0 k, .int .i64 ((A2.length : Int) + 1), .str []]]) :: some (.row 1 sr) :: some (.row 5 [tokL t b]) :: some (.hid vs L) :: some (.row 5 [tokL t b]) :: j5 :: some (.row 4 [.agg [.rp [.str t.name, .lst (t.attrs.map attA), .str [], .nils], .nils, .str [], .bool true]]) :: none :: T2⟩ := by
    intro o u sr k j5 ho hsr hk hj
    have hnew : (newE t A2).opn = o := ho
    have hlen : (stk (A2 ++ [newE t A2])).length = k := by
      rw [stk_app, hnew, hk, List.length_append]
      cases o <;> rfl
    have hmp : mvL 6 (2 * (A2.length + 1) + 8) sr = (stk (A2 ++ [newE t A2])).map ptV := by
      rw [stk_app, hnew, hsr, mvL_is_map, List.map_append, ← mvL_is_map, pts_mv _ (by decide), List.map_append]
      cases o <;> simp [V.mv, mvI, ptV]
    have hsk : ∀ a, a = 4 ∨ a = 5 → killL a sr = sr := by
      intro a ha
      rw [hsr, killL_app, pts_kill (by omega)]
      rcases ha with rfl | rfl <;> cases o <;> simp [killL, V.kill]
    have hsr4 : mvL 4 (2 * (A2.length + 1) + 9) ((stk (A2 ++ [newE t A2])).map ptV) = (stk (A2 ++ [newE t A2])).map ptV := pts_mv _ (by decide) _
    refine inret_up (up_to' [] (up_drop 4 (up_drop 5 (up_eq (σ' := ⟨110, [], some (.row 4 [.agg [.ptr 8 0 0, .sl 1 0 k, .int .i64 ((A2.length : Int) + 1), .str []]]) :: some (.row 1 sr) :: some (.row 5 [tokL t b]) :: some (.hid vs L) :: none :: none :: some (.row 4 [.agg [ndV (newE t A2), .nils, .str (newE t A2).text, .bool (newE t A2).elem]]) :: none :: obP A2 p (stMore A2 p) (.ptr 6 0 0)⟩)
      (up_finish hW2 (r := newE t A2) hpt hpn (c0 := bO (A2 ++ [newE t A2]) []) (c1 := sO (A2 ++ [newE t A2])) (c2 := .row 5 [tokL t b]) (c3 := .hid vs L) ?_ ?_ (up_here (inret_at hE ?_))) ?_))))
    · simp only [Ob.mv, mvL, tokL_mv, hmp, (hfree 6 rfl).2.1, bO, sO, hlen]
      simp [V.mv, mvL, mvI]
    · simp only [Ob.mv, mvL, tokL_mv, hsr4, (hfree 4 rfl).2.1, bO, sO, hlen]
      simp [V.mv, mvL, mvI]
    · conv => whnf
      exact ⟨rfl, hK⟩
    · rw [hT2]
      rcases hj with rfl | rfl
      all_goals
        simp only [killH, Ob.kill, killL, tokL_kill, hsk 4 (.inl rfl), hsk 5 (.inr rfl), hL4, hLk5, hk4, hk5]
        simp [V.kill, killL, keepU, ndV, newE]
        simp only [killH, Ob.kill, killL, tokL_kill, hsk 4 (.inl rfl), hsk 5 (.inr rfl), hL4, hLk5, hk4, hk5]
        simp [V.kill, killL, ndV, newE]
  refine awp_run hE hc9 ?_
  conv => whnf
  repeat' (first | (refine brd_t (by first | assumption | omega) ?_; conv => whnf) | (refine brd_f (by first | assumption | omega) ?_; conv => whnf) | (refine ask (by first | assumption | omega) ?_; conv => whnf) | (refine fit64 (by omega) ?_; conv => whnf) | (refine fit (by simp only [kmin, kmax]; omega) ?_; conv => whnf) | (refine br_t (by assumption) ?_; conv => whnf) | (refine br_f (by assumption) ?_; conv => whnf) | (refine get_of (by assumption) ?_; conv => whnf) | (refine get_map (by assumption) ?_; conv => whnf) | (refine fH_go ?_; conv => whnf) | (refine fL0_go (fH_go ?_); conv => whnf) | (refine callc_eq (hGv) hC hasBody_18 rfl ?_ ?_ ?_; kernel_rfl; kernel_rfl; conv => whnf) | (refine callcq_eq (hGv) hC hasBody_18 rfl ?_ ?_ ?_; kernel_rfl; kernel_rfl; conv => whnf) | (refine ask (Nat.le_refl 1) ?_; conv => whnf) | (refine draw_lex hE ?_ ?_; decide +kernel; conv => whnf) | (refine brd (fun h => ?_) (fun h => ?_) <;> conv => whnf) | (refine br (fun h => ?_) (fun h => ?_) <;> conv => whnf) | (refine ret_now hE ?_; conv => whnf) | (intro hlen; conv => whnf) | (refine seg_here ?_; conv => whnf) | (refine both ?_ ?_ <;> conv => whnf))
  · exact fin false _ _ _ _ (by rw [hb]; simp [*]) (by simp) rfl (.inl rfl)
  · exact fin false _ _ _ _ (by simp [*]) (by simp) rfl (.inl rfl)
  · refine app_as (u' := [(106, .sl 5 0 1), (105, .ptr 6 0 0), (104, .any), (103, .ptr 0 0 1), (102, .ptr 0 0 0), (101, .ptr 0 0 0), (100, .ptr 0 0 0), (99, .bool true), (98, .bool true), (97, .bool false), (96, .str t.name), (95, .ptr 4 0 1), (94, .gsl 1 4), (93, .bool true), (92, .bool true), (91, .bool false), (90, .ptr 4 0 3), (0, .ptr 0 0 0), (3, .ptr 4 0 0), (5, .ptr 6 0 0)])
      (h' := some (.row 4 [.agg [.ptr 8 0 0, .any, .int .i64 ((A2.length : Int) + 1), .str []]]) :: some (.row 1 ((stk A2).map ptV ++ [.ptr 6 0 0])) :: some (.row 5 [tokL t b]) :: some (.hid vs L) :: some (.row 5 [tokL t b]) :: some (.row 1 [.ptr 6 0 0]) :: some (.row 4 [.agg [.rp [.str t.name, .lst (t.attrs.map attA), .str [], .nils], .nils, .str [], .bool true]]) :: none :: T2) ⟨?_, ?_, ?_⟩ ?_ ?_ ?_
    · simp
    · have := stk_bd (A := A2) (by omega)
      show _ + 1 ≤ 9223372036854775807; omega
    · have := stk_bd (A := A2) (by omega)
      show (_ + 1) * 8 ≤ 140737488355328; omega
    · simp [V.kill]
    · have hkm : ((stk A2).map ptV).length = (stk A2).length := by simp
      simp only [putOb, killH]
      simp only [Ob.kill, killL, tokL_kill, pts_kill (show 1 < 8 by decide), hL1, hk1]
      rw [List.drop_zero, List.drop_zero, ← hkm, List.take_length, killL_app, pts_kill (by decide)]
      simp [V.kill, killL]
    · conv => whnf
      repeat' (first | (refine brd_t (by first | assumption | omega) ?_; conv => whnf) | (refine brd_f (by first | assumption | omega) ?_; conv => whnf) | (refine ask (by first | assumption | omega) ?_; conv => whnf) | (refine fit64 (by omega) ?_; conv => whnf) | (refine fit (by simp only [kmin, kmax]; omega) ?_; conv => whnf) | (refine br_t (by assumption) ?_; conv => whnf) | (refine br_f (by assumption) ?_; conv => whnf) | (refine get_of (by assumption) ?_; conv => whnf) | (refine get_map (by assumption) ?_; conv => whnf) | (refine fH_go ?_; conv => whnf) | (refine fL0_go (fH_go ?_); conv => whnf) | (refine draw_lex hE ?_ ?_; decide +kernel; conv => whnf) | (refine brd (fun h => ?_) (fun h => ?_) <;> conv => whnf) | (refine br (fun h => ?_) (fun h => ?_) <;> conv => whnf) | (refine ret_now hE ?_; conv => whnf) | (intro hlen; conv => whnf) | (refine seg_here ?_; conv => whnf) | (refine both ?_ ?_ <;> conv => whnf))
      exact fin true _ _ _ _ (by simp [*]) rfl rfl (.inr rfl)
end
end Go.Proofs.YtbdogoccjcifnaaDoor

/-! The builder's chars, walked in place. No conditions. -/
namespace Go.Proofs.YtbdogoccjcifnaaDoor
open Go.RowKit

theorem obA_text {A : List Rc} {j : Nat} {r : Rc} (hr : A[j]? = some r) (x : List UInt8) : (obA A).set (2 * (j + 1)) (some (.row 4 [.agg [ndV r, .sl (2 * (j + 1) + 9) 0 (kids (j + 1) A).length, .str (r.text ++ x), .bool r.elem]])) = obA (A.set j (addT x r)) := by
  have hlt := (List.getElem?_eq_some_iff.1 hr).1
  have hk : ∀ q, kids q (A.set j (addT x r)) = kids q A := by
    intro q
    refine idsW_congr _ 0 _ _ ?_
    rw [List.map_set]
    show (A.map fun r => r.inn == q).set j (r.inn == q) = _
    refine List.ext_getElem? fun i => ?_
    rw [List.getElem?_set]
    split
    · rename_i e
      subst e
      rw [List.getElem?_map, hr]
      simp [hlt]
    · rfl
  unfold obA
  rw [obG_set_f, List.length_set]
  refine obG_congr (fun i hi => ?_) (fun i hi => ?_)
  · unfold updF
    split
    · rename_i e
      subst e
      rw [stV_at (r := addT x r) (List.getElem?_set_self hlt), hk]
      rfl
    · rename_i e
      unfold stV stR
      rw [hk]
      have : recO (A.set j (addT x r)) i = recO A i := by
        cases i with
        | zero => rfl
        | succ k =>
          simp only [recO]
          rw [List.getElem?_set_ne (by omega)]
      rw [this]
  · unfold kdV
    rw [hk]
theorem stk_text {A : List Rc} {j : Nat} {r : Rc} (hr : A[j]? = some r) (x : List UInt8) : stk (A.set j (addT x r)) = stk A := by
  unfold stk
  congr 1
  refine idsW_congr _ 0 _ _ ?_
  rw [List.map_set]
  show (A.map fun r => r.opn).set j r.opn = _
  refine List.ext_getElem? fun i => ?_
  rw [List.getElem?_set]
  split
  · rename_i e
    subst e
    rw [List.getElem?_map, hr]
    simp [(List.getElem?_eq_some_iff.1 hr).1]
  · rfl
def stC (t : Tk) (b : Bool) (vs : List Value) (L : List V) (x : List UInt8) (T : List (Option Ob)) (A : List Rc) (mute : List UInt8) (o4 o5 o6 o7 : Option Ob) (u : List (Nat × V)) : ES :=
  ⟨98, (0, .ptr 0 0 0) :: (1, .str x) :: u, some (.row 4 [.agg [.ptr 8 0 0, .sl 1 0 (stk A).length, .int .i64 A.length, .str mute]]) :: some (.row 1 ((stk A).map ptV)) :: some (.row 5 [tokL t b]) :: some (.hid vs L) :: o4 :: o5 :: o6 :: o7 :: T⟩
section
variable {C : Ctx} {σ : ES} {fop : Operand} {args : List Operand} {K : V → ES → Prop}
set_option maxHeartbeats 16000000 in
theorem call_chars (t : Tk) (b : Bool) (x : List UInt8) (s : Bs) (hW : Wf s.A) (hA : s.A.length ≤ 900) (hx : totX s.A + x.length ≤ 140737488351232) (hE : EOk Tryd.tt C) (hC : C.P = Tryd.prog)
    (ks : List Nat) (hks : (ks.all fun k => Nat.blt k σ.n) = true) (hL8 : ∀ k, (k = 1 ∨ 8 ≤ k) → killL k (ks.map (lookU σ.u)) = ks.map (lookU σ.u)) (he : evalC σ fop args = some (10, [.ptr 0 0 0, .str x]))
    {T0 : List (Option Ob)} (hT0 : obA s.A = T0) (hh : σ.heap = some (bO s.A s.mute) :: some (sO s.A) :: some (.row 5 [tokL t b]) :: none :: none :: none :: none :: none :: T0)
    (hK : zipK ks (ks.map (lookU σ.u)) fun u => fH (some (bO (charsB x s).A (charsB x s).mute) :: some (sO (charsB x s).A) :: some (.row 5 [tokL t b]) :: none :: none :: none :: none :: none :: obA (charsB x s).A) fun h => K (.tup []) ⟨σ.n, u, h⟩) :
    CallN C fop args 10 [.ptr 0 0 0, .str x] K σ := by
  obtain ⟨n, u, h⟩ := σ
  subst hT0
  simp only at hh hK hks hL8
  subst hh
  rw [zipK_eq, fH_eq] at hK
  refine call_inA (T := Tryd.tt) hC Tryd.func10 rfl hasBody_10 he (Nat.le_of_ble_eq_true (by kernel_rfl)) 3 ks rfl hks fun vs hfree => ?_
  obtain ⟨A, mute⟩ := s
  simp only at *
  generalize hT : obA A = T at *
  generalize ks.map (lookU u) = L at *
  have hc0 : codeOk (((Tryd.f10).body).getD .skip) = true := by kernel_rfl
  -- the last open one
  refine awp_cut hE (fun σ => σ = stC t b vs L x T A mute none none none none [(4, ptV (topI A))]) hc0 ?_ fun hc1 σ1 e1 => ?_
  · unfold bO sO
    conv => whnf
    repeat' (first | (refine brd_t (by first | assumption | omega) ?_; conv => whnf) | (refine brd_f (by first | assumption | omega) ?_; conv => whnf) | (refine ask (by first | assumption | omega) ?_; conv => whnf) | (refine fit64 (by omega) ?_; conv => whnf) | (refine fit (by simp only [kmin, kmax]; omega) ?_; conv => whnf) | (refine br_t (by assumption) ?_; conv => whnf) | (refine br_f (by assumption) ?_; conv => whnf) | (refine get_of (by assumption) ?_; conv => whnf) | (refine get_map (by assumption) ?_; conv => whnf) | (refine fH_go ?_; conv => whnf) | (refine fL0_go (fH_go ?_); conv => whnf) | (refine call_last A mute (by omega) hE hC [0, 1] rfl rfl rfl ?_; conv => whnf) | (refine draw_lex hE ?_ ?_; decide +kernel; conv => whnf) | (refine brd (fun h => ?_) (fun h => ?_) <;> conv => whnf) | (refine br (fun h => ?_) (fun h => ?_) <;> conv => whnf) | (refine ret_now hE ?_; conv => whnf) | (intro hlen; conv => whnf) | (refine seg_here ?_; conv => whnf) | (refine both ?_ ?_ <;> conv => whnf))
    exact up_at [0, 1, 4] rfl rfl
  subst e1
  have hpn : topI A < A.length + 1 := by have := topI_le A; omega
  have hml := kids_len (topI A) A
  have hg1 : T[2 * topI A]? = some (some (.row 4 [.agg [ndV (recO A (topI A)), .sl (2 * topI A + 9) 0 (kids (topI A) A).length, .str (recO A (topI A)).text, .bool (recO A (topI A)).elem]])) := hT ▸ obG_f (stV A) (kdV A) hpn
  have hg2 : T[2 * topI A + 1]? = some (some (.row 1 ((kids (topI A) A).map ptV))) := hT ▸ obG_g (stV A) (kdV A) hpn
  have hB : charsB x ⟨A, mute⟩ = if x = [] ∨ mute ≠ [] ∨ rawTop A = true then ⟨A, mute⟩ else ⟨charA x A, mute⟩ := rfl
  rw [hB] at hK
  clear hB
  have same : (x = [] ∨ mute ≠ [] ∨ rawTop A = true) → K (.tup []) ⟨n, ks.zip L, some (.row 4 [.agg [.ptr 8 0 0, .sl 1 0 (stk A).length, .int .i64 A.length, .str mute]]) :: some (.row 1 ((stk A).map ptV)) :: some (.row 5 [tokL t b]) :: none :: none :: none :: none :: none :: T⟩ := fun h => by
    rw [if_pos h] at hK
    simp only [hT] at hK
    exact hK
  -- texts that do not count
  have hraw := topI_at hW
  have back : ∀ (u : List (Nat × V)), (x = [] ∨ mute ≠ [] ∨ rawTop A = true) → InRetN Tryd.tt C Tryd.f10 3 n ks vs K ⟨98, u, (stC t b vs L x T A mute none none none none []).heap⟩ := fun u h => by
    refine inret_at hE ?_
    unfold stC
    conv => whnf
    exact ⟨rfl, same h⟩
  refine awp_cut hE (fun σ => ¬ (x = [] ∨ mute ≠ [] ∨ rawTop A = true) ∧ σ = stC t b vs L x T A mute none none none none [(4, ptV (topI A))]) hc1 ?_ fun hc2 σ2 e2 => ?_
  · rcases hraw with ⟨h0, hr0, hrec⟩ | ⟨j, q, hj, hq, hr0, hrec, hel⟩
    · rw [hrec] at hg1
      have hg1 : T[2 * topI A]? = some (some (.row 4 [.agg [.nilp, .sl (2 * topI A + 9) 0 (kids (topI A) A).length, .str [], .bool false]])) := hg1
      generalize topI A = p at *
      conv => whnf
      repeat' (first | (refine brd_t (by first | assumption | omega) ?_; conv => whnf) | (refine brd_f (by first | assumption | omega) ?_; conv => whnf) | (refine ask (by first | assumption | omega) ?_; conv => whnf) | (refine fit64 (by omega) ?_; conv => whnf) | (refine fit (by simp only [kmin, kmax]; omega) ?_; conv => whnf) | (refine br_t (by assumption) ?_; conv => whnf) | (refine br_f (by assumption) ?_; conv => whnf) | (refine get_of (by assumption) ?_; conv => whnf) | (refine get_map (by assumption) ?_; conv => whnf) | (refine fH_go ?_; conv => whnf) | (refine fL0_go (fH_go ?_); conv => whnf) | (refine get_of hg1 ?_; conv => whnf) | (refine draw_lex hE ?_ ?_; decide +kernel; conv => whnf) | (refine brd (fun h => ?_) (fun h => ?_) <;> conv => whnf) | (refine br (fun h => ?_) (fun h => ?_) <;> conv => whnf) | (refine ret_now hE ?_; conv => whnf) | (intro hlen; conv => whnf) | (refine seg_here ?_; conv => whnf) | (refine both ?_ ?_ <;> conv => whnf))
      all_goals first
        | exact back _ (.inl (by assumption))
        | exact back _ (.inr (.inl (by assumption)))
        | exact up_at [0, 1, 4] (σ' := stC t b vs L x T A mute none none none none [(4, ptV p)]) rfl ⟨(by rintro (h | h | h); exact absurd h (by assumption); exact h (by assumption); rw [hr0] at h; cases h), rfl⟩
    · rw [hrec, ndV_elem hel, hel] at hg1
      generalize topI A = p at *
      conv => whnf
      repeat' (first | (refine brd_t (by first | assumption | omega) ?_; conv => whnf) | (refine brd_f (by first | assumption | omega) ?_; conv => whnf) | (refine ask (by first | assumption | omega) ?_; conv => whnf) | (refine fit64 (by omega) ?_; conv => whnf) | (refine fit (by simp only [kmin, kmax]; omega) ?_; conv => whnf) | (refine br_t (by assumption) ?_; conv => whnf) | (refine br_f (by assumption) ?_; conv => whnf) | (refine get_of (by assumption) ?_; conv => whnf) | (refine get_map (by assumption) ?_; conv => whnf) | (refine fH_go ?_; conv => whnf) | (refine fL0_go (fH_go ?_); conv => whnf) | (refine get_of hg1 ?_; conv => whnf) | (refine draw_lex hE ?_ ?_; decide +kernel; conv => whnf) | (refine brd (fun h => ?_) (fun h => ?_) <;> conv => whnf) | (refine br (fun h => ?_) (fun h => ?_) <;> conv => whnf) | (refine ret_now hE ?_; conv => whnf) | (intro hlen; conv => whnf) | (refine seg_here ?_; conv => whnf) | (refine both ?_ ?_ <;> conv => whnf))
      all_goals first
        | exact back _ (.inl (by assumption))
        | exact back _ (.inr (.inl (by assumption)))
        | exact back _ (.inr (.inr (by rw [hr0]; simp [rawT, scrN, styN, *])))
        | exact up_at [0, 1, 4] (σ' := stC t b vs L x T A mute none none none none [(4, ptV p)]) rfl ⟨(by rintro (h | h | h); exact absurd h (by assumption); exact h (by assumption); rw [hr0] at h; simp only [rawT, scrN, styN, List.mem_cons, List.not_mem_nil, or_false, decide_eq_true_eq] at h; rcases h with h | h; exact absurd h (by assumption); exact absurd h (by assumption)), rfl⟩
        | trace_state
  obtain ⟨hno, e2⟩ := e2
  subst e2
  rw [if_neg hno] at hK
  clear same back hno hraw hc0 hc1
  simp only at hK
  have hkl := kids_last (topI A) A
  have hlk : lastIdx (fun r => r.inn == topI A) A = lastK A := rfl
  rw [hlk] at hkl
  have hLx : ∀ r : Rc, r ∈ A → r.text.length ≤ totX A := fun r h => totX_mem h
  have hAp : (lastK A = none ∨ ∃ (j : Nat) (r : Rc), lastK A = some j ∧ A[j]? = some r ∧ r.elem = true) → charA x A = A ++ [newT x A] := by
    rintro (h | ⟨j, r, h1, h2, h3⟩)
    · unfold charA; rw [h]
    · unfold charA; rw [h1]; simp [h2, h3]
  -- a text that goes on
  refine awp_cut hE (fun σ => (lastK A = none ∨ ∃ (j : Nat) (r : Rc), lastK A = some j ∧ A[j]? = some r ∧ r.elem = true) ∧ σ = stC t b vs L x T A mute none none none none [(4, ptV (topI A))]) hc2 ?_ fun hc3 σ3 e3 => ?_
  · have hkm : ((kids (topI A) A).map ptV).length = (kids (topI A) A).length := by simp
    cases hl : lastK A with
    | none =>
      have hk0 : (kids (topI A) A).length = 0 := by
        rw [hl] at hkl
        have := List.getElem?_eq_none_iff.1 hkl
        omega
      generalize topI A = p at *
      conv => whnf
      repeat' (first | (refine brd_t (by first | assumption | omega) ?_; conv => whnf) | (refine brd_f (by first | assumption | omega) ?_; conv => whnf) | (refine ask (by first | assumption | omega) ?_; conv => whnf) | (refine fit64 (by omega) ?_; conv => whnf) | (refine fit (by simp only [kmin, kmax]; omega) ?_; conv => whnf) | (refine br_t (by assumption) ?_; conv => whnf) | (refine br_f (by assumption) ?_; conv => whnf) | (refine get_of (by assumption) ?_; conv => whnf) | (refine get_map (by assumption) ?_; conv => whnf) | (refine fH_go ?_; conv => whnf) | (refine fL0_go (fH_go ?_); conv => whnf) | (refine get_of hg1 ?_; conv => whnf) | (refine get_of hg2 ?_; conv => whnf) | (refine draw_lex hE ?_ ?_; decide +kernel; conv => whnf) | (refine brd (fun h => ?_) (fun h => ?_) <;> conv => whnf) | (refine br (fun h => ?_) (fun h => ?_) <;> conv => whnf) | (refine ret_now hE ?_; conv => whnf) | (intro hlen; conv => whnf) | (refine seg_here ?_; conv => whnf) | (refine both ?_ ?_ <;> conv => whnf))
      exact up_at [0, 1, 4] (σ' := stC t b vs L x T A mute none none none none [(4, ptV p)]) rfl ⟨.inl rfl, rfl⟩
    | some j =>
      rw [hl] at hkl
      simp only [Option.map_some] at hkl
      have hlt := (List.getElem?_eq_some_iff.1 hkl).1
      obtain ⟨r, hr, _⟩ := lastIdx_some hl
      have hjl := (List.getElem?_eq_some_iff.1 hr).1
      have hg4 : ((kids (topI A) A).map ptV)[0 + Int.toNat (((kids (topI A) A).length : Int) - 1)]? = some (.ptr (2 * (j + 1) + 8) 0 0) := by
        rw [show 0 + Int.toNat (((kids (topI A) A).length : Int) - 1) = (kids (topI A) A).length - 1 by omega, List.getElem?_map, hkl]
        rfl
      have hg5 : T[2 * (j + 1)]? = some (some (.row 4 [.agg [ndV r, .sl (2 * (j + 1) + 9) 0 (kids (j + 1) A).length, .str r.text, .bool r.elem]])) := by
        rw [← hT, ← stV_at hr]
        exact obG_f (stV A) (kdV A) (by omega)
      have htx := obA_text hr x
      rw [hT] at htx
      have hxr := hLx r (List.mem_of_getElem? hr)
      have hch : r.elem = false → charA x A = A.set j (addT x r) := fun h => by unfold charA; rw [hl]; simp only [hr, h, if_true]
      generalize topI A = p at *
      cases hel : r.elem with
      | true =>
        rw [hel] at hg5
        conv => whnf
        repeat' (first | (refine brd_t (by first | assumption | omega) ?_; conv => whnf) | (refine brd_f (by first | assumption | omega) ?_; conv => whnf) | (refine ask (by first | assumption | omega) ?_; conv => whnf) | (refine fit64 (by omega) ?_; conv => whnf) | (refine fit (by simp only [kmin, kmax]; omega) ?_; conv => whnf) | (refine br_t (by assumption) ?_; conv => whnf) | (refine br_f (by assumption) ?_; conv => whnf) | (refine get_of (by assumption) ?_; conv => whnf) | (refine get_map (by assumption) ?_; conv => whnf) | (refine fH_go ?_; conv => whnf) | (refine fL0_go (fH_go ?_); conv => whnf) | (refine get_of hg1 ?_; conv => whnf) | (refine get_of hg2 ?_; conv => whnf) | (refine get_of hg4 ?_; conv => whnf) | (refine get_of hg5 ?_; conv => whnf) | (refine draw_lex hE ?_ ?_; decide +kernel; conv => whnf) | (refine brd (fun h => ?_) (fun h => ?_) <;> conv => whnf) | (refine br (fun h => ?_) (fun h => ?_) <;> conv => whnf) | (refine ret_now hE ?_; conv => whnf) | (intro hlen; conv => whnf) | (refine seg_here ?_; conv => whnf) | (refine both ?_ ?_ <;> conv => whnf))
        exact up_at [0, 1, 4] (σ' := stC t b vs L x T A mute none none none none [(4, ptV p)]) rfl ⟨.inr ⟨j, r, rfl, hr, hel⟩, rfl⟩
      | false =>
        rw [hel] at hg5 htx
        rw [ndV_text hel] at hg5 htx
        rw [hch hel] at hK
        conv => whnf
        repeat' (first | (refine brd_t (by first | assumption | omega) ?_; conv => whnf) | (refine brd_f (by first | assumption | omega) ?_; conv => whnf) | (refine ask (by first | assumption | omega) ?_; conv => whnf) | (refine fit64 (by omega) ?_; conv => whnf) | (refine fit (by simp only [kmin, kmax]; omega) ?_; conv => whnf) | (refine br_t (by assumption) ?_; conv => whnf) | (refine br_f (by assumption) ?_; conv => whnf) | (refine get_of (by assumption) ?_; conv => whnf) | (refine get_map (by assumption) ?_; conv => whnf) | (refine fH_go ?_; conv => whnf) | (refine fL0_go (fH_go ?_); conv => whnf) | (refine get_of hg1 ?_; conv => whnf) | (refine get_of hg2 ?_; conv => whnf) | (refine get_of hg4 ?_; conv => whnf) | (refine get_of hg5 ?_; conv => whnf) | (refine inret_at hE ?_; conv => whnf) | (refine draw_lex hE ?_ ?_; decide +kernel; conv => whnf) | (refine brd (fun h => ?_) (fun h => ?_) <;> conv => whnf) | (refine br (fun h => ?_) (fun h => ?_) <;> conv => whnf) | (refine ret_now hE ?_; conv => whnf) | (intro hlen; conv => whnf) | (refine seg_here ?_; conv => whnf) | (refine both ?_ ?_ <;> conv => whnf))
        unfold bO sO at hK
        rw [stk_text hr, List.length_set, ← htx] at hK
        exact ⟨rfl, hK⟩
  obtain ⟨hnone, e3⟩ := e3
  subst e3
  rw [hAp hnone] at hK
  clear hAp hnone hc2 hkl hlk
  -- a new text
  have hLp := hL8 (2 * topI A + 9) (.inr (by omega))
  have hTp := obA_part A (topI A) (.ptr 4 0 0)
  rw [hT] at hTp
  have hTs := obP_set A (topI A) (stAny A (topI A)) (stMore A (topI A)) (.ptr 4 0 0)
  have hg3 : (obP A (topI A) (stAny A (topI A)) (.ptr 4 0 0))[2 * topI A]? = some (some (.row 4 [.agg [ndV (recO A (topI A)), .any, .str (recO A (topI A)).text, .bool (recO A (topI A)).elem]])) := obP_get hpn _ _
  have hkm : ((kids (topI A) A).map ptV).length = (kids (topI A) A).length := by simp
  generalize hpt : topI A = p at *
  generalize hT2 : obP A p (stMore A p) (.ptr 4 0 0) = T2 at *
  generalize obP A p (stAny A p) (.ptr 4 0 0) = T1 at *
  have hk5 : killH 5 T2 = T2 := by rw [← hT2]; exact obP_kill (by decide) (by simp [V.kill])
  have hm46 : mvH 4 6 T2 = obP A p (stMore A p) (.ptr 6 0 0) := by rw [← hT2]; exact obP_mv 6 (by decide) (by simp [V.mv, mvI])
  refine awp_cut hE (fun σ => σ = ⟨98, [(0, .ptr 0 0 0)], some (.row 4 [.agg [.ptr 8 0 0, .sl 1 0 (stk A).length, .int .i64 A.length, .str mute]]) :: some (.row 1 ((stk A).map ptV)) :: some (.row 5 [tokL t b]) :: some (.hid vs L) :: some (.row 4 [.agg [.nilp, .nils, .str x, .bool false]]) :: some (.row 1 [.ptr 4 0 0]) :: none :: none :: T2⟩) hc3 ?_ fun hc4 σ4 e4 => ?_
  · rcases ndV_cases (recO A p) with hnd | ⟨sn, ln, hnd⟩
    all_goals
      rw [hnd] at hg1 hg3
      conv => whnf
      repeat' (first | (refine brd_t (by first | assumption | omega) ?_; conv => whnf) | (refine brd_f (by first | assumption | omega) ?_; conv => whnf) | (refine ask (by first | assumption | omega) ?_; conv => whnf) | (refine fit64 (by omega) ?_; conv => whnf) | (refine fit (by simp only [kmin, kmax]; omega) ?_; conv => whnf) | (refine br_t (by assumption) ?_; conv => whnf) | (refine br_f (by assumption) ?_; conv => whnf) | (refine get_of (by assumption) ?_; conv => whnf) | (refine get_map (by assumption) ?_; conv => whnf) | (refine fH_go ?_; conv => whnf) | (refine fL0_go (fH_go ?_); conv => whnf) | (refine get_of hg1 ?_; conv => whnf) | (refine get_of hg2 ?_; conv => whnf) | (refine ask (Nat.le_refl 1) ?_; conv => whnf) | (refine draw_lex hE ?_ ?_; decide +kernel; conv => whnf) | (refine brd (fun h => ?_) (fun h => ?_) <;> conv => whnf) | (refine br (fun h => ?_) (fun h => ?_) <;> conv => whnf) | (refine ret_now hE ?_; conv => whnf) | (intro hlen; conv => whnf) | (refine seg_here ?_; conv => whnf) | (refine both ?_ ?_ <;> conv => whnf))
      refine app_as (u' := [(87, .sl 5 0 1), (86, .ptr 4 0 0), (85, .agg [.nilp, .nils, .str x, .bool false]), (84, .str x), (83, .any), (82, .ptr (2 * p + 8) 0 1), (81, .ptr (2 * p + 8) 0 0), (80, .ptr (2 * p + 8) 0 0), (79, .ptr (2 * p + 8) 0 0), (0, .ptr 0 0 0), (1, .str x), (4, .ptr (2 * p + 8) 0 0)])
        (h' := some (.row 4 [.agg [.ptr 8 0 0, .sl 1 0 (stk A).length, .int .i64 A.length, .str mute]]) :: some (.row 1 ((stk A).map ptV)) :: some (.row 5 [tokL t b]) :: some (.hid vs L) :: some (.row 4 [.agg [.nilp, .nils, .str x, .bool false]]) :: some (.row 1 [.ptr 4 0 0]) :: none :: none :: T1) ⟨?_, ?_, ?_⟩ ?_ ?_ ?_
      · omega
      · show _ + 1 ≤ 9223372036854775807; omega
      · show (_ + 1) * 8 ≤ 140737488355328; omega
      · simp [V.kill, ptV, killL]
      · show (killH (2 * p + 9) (some (.row 4 [.agg [.ptr 8 0 0, .sl 1 0 (stk A).length, .int .i64 A.length, .str mute]]) :: some (.row 1 ((stk A).map ptV)) :: some (.row 5 [tokL t b]) :: some (.hid vs L) :: some (.row 4 [.agg [.nilp, .nils, .str x, .bool false]]) :: some (.row 1 [.ptr 4 0 0]) :: none :: none :: T)).set (2 * p + 9) (some (.row 1 (killL (2 * p + 9) (List.take (kids p A).length (List.drop 0 ((kids p A).map ptV)) ++ List.take 1 (List.drop 0 [.ptr 4 0 0]))))) = _
        have e : ∀ (b0 b1 b2 b3 b4 b5 b6 b7 : Option Ob) (h : List (Option Ob)) (o : Option Ob), (b0 :: b1 :: b2 :: b3 :: b4 :: b5 :: b6 :: b7 :: h).set (2 * p + 9) o = b0 :: b1 :: b2 :: b3 :: b4 :: b5 :: b6 :: b7 :: h.set (2 * p + 1) o := fun _ _ _ _ _ _ _ _ _ _ => rfl
        simp only [killH]
        rw [e]
        simp only [Ob.kill, killL, tokL_kill, pts_killp, hLp]
        rw [List.drop_zero, List.drop_zero, ← hkm, List.take_length, killL_app, pts_killp]
        have e1 : killL (2 * p + 9) (List.take 1 [V.ptr 4 0 0]) = [.ptr 4 0 0] := by simp [killL, V.kill]
        rw [e1, hTp]
        simp [V.kill, killL]
      · conv => whnf
        repeat' (first | (refine brd_t (by first | assumption | omega) ?_; conv => whnf) | (refine brd_f (by first | assumption | omega) ?_; conv => whnf) | (refine ask (by first | assumption | omega) ?_; conv => whnf) | (refine fit64 (by omega) ?_; conv => whnf) | (refine fit (by simp only [kmin, kmax]; omega) ?_; conv => whnf) | (refine br_t (by assumption) ?_; conv => whnf) | (refine br_f (by assumption) ?_; conv => whnf) | (refine get_of (by assumption) ?_; conv => whnf) | (refine get_map (by assumption) ?_; conv => whnf) | (refine fH_go ?_; conv => whnf) | (refine fL0_go (fH_go ?_); conv => whnf) | (refine get_of hg3 ?_; conv => whnf) | (refine draw_lex hE ?_ ?_; decide +kernel; conv => whnf) | (refine brd (fun h => ?_) (fun h => ?_) <;> conv => whnf) | (refine br (fun h => ?_) (fun h => ?_) <;> conv => whnf) | (refine ret_now hE ?_; conv => whnf) | (intro hlen; conv => whnf) | (refine seg_here ?_; conv => whnf) | (refine both ?_ ?_ <;> conv => whnf))
        refine up_at [0] ?_ rfl
        rw [← hTs]
        unfold stMore
        rw [hnd]
        rfl
  subst e4
  have hfin : A.length + 1 < 1000 := by omega
  have hstk : stk (A ++ [newT x A]) = stk A := by rw [stk_app]; simp [newT]
  refine awp_run hE hc4 ?_
  conv => whnf
  repeat' (first | (refine brd_t (by first | assumption | omega) ?_; conv => whnf) | (refine brd_f (by first | assumption | omega) ?_; conv => whnf) | (refine ask (by first | assumption | omega) ?_; conv => whnf) | (refine fit64 (by omega) ?_; conv => whnf) | (refine fit (by simp only [kmin, kmax]; omega) ?_; conv => whnf) | (refine br_t (by assumption) ?_; conv => whnf) | (refine br_f (by assumption) ?_; conv => whnf) | (refine get_of (by assumption) ?_; conv => whnf) | (refine get_map (by assumption) ?_; conv => whnf) | (refine fH_go ?_; conv => whnf) | (refine fL0_go (fH_go ?_); conv => whnf) | (refine draw_lex hE ?_ ?_; decide +kernel; conv => whnf) | (refine brd (fun h => ?_) (fun h => ?_) <;> conv => whnf) | (refine br (fun h => ?_) (fun h => ?_) <;> conv => whnf) | (refine ret_now hE ?_; conv => whnf) | (intro hlen; conv => whnf) | (refine seg_here ?_; conv => whnf) | (refine both ?_ ?_ <;> conv => whnf))
  have hL4m := fun b => (hfree 4 rfl).2.1 b
  have hL6m := fun b => (hfree 6 rfl).2.1 b
  refine inret_up (up_to' [] (up_drop 5 (up_eq (σ' := ⟨98, [], some (.row 4 [.agg [.ptr 8 0 0, .sl 1 0 (stk A).length, .int .i64 ((A.length : Int) + 1), .str mute]]) :: some (.row 1 ((stk A).map ptV)) :: some (.row 5 [tokL t b]) :: some (.hid vs L) :: some (.row 4 [.agg [.nilp, .nils, .str x, .bool false]]) :: none :: none :: none :: T2⟩)
    (up_move 4 6 (by decide) (o := .row 4 [.agg [.nilp, .nils, .str x, .bool false]]) rfl rfl (up_eq (σ' := ⟨98, [], some (.row 4 [.agg [.ptr 8 0 0, .sl 1 0 (stk A).length, .int .i64 ((A.length : Int) + 1), .str mute]]) :: some (.row 1 ((stk A).map ptV)) :: some (.row 5 [tokL t b]) :: some (.hid vs L) :: none :: none :: some (.row 4 [.agg [ndV (newT x A), .nils, .str (newT x A).text, .bool (newT x A).elem]]) :: none :: obP A p (stMore A p) (.ptr 6 0 0)⟩)
      (up_finish hW (r := newT x A) hpt hpn (c0 := bO (A ++ [newT x A]) mute) (c1 := sO (A ++ [newT x A])) (c2 := .row 5 [tokL t b]) (c3 := .hid vs L) ?_ ?_ (up_here (inret_at hE ?_))) ?_)) ?_)))
  · simp only [Ob.mv, mvL, tokL_mv, pts_mv _ (show 6 < 8 by decide), hL6m, bO, sO, hstk]
    simp [V.mv, mvL, mvI]
  · simp only [Ob.mv, mvL, tokL_mv, pts_mv _ (show 4 < 8 by decide), hL4m, bO, sO, hstk]
    simp [V.mv, mvL, mvI]
  · conv => whnf
    exact ⟨rfl, hK⟩
  · unfold mvHeap
    simp only [mvH]
    simp only [Ob.mv, mvL, tokL_mv, pts_mv _ (show 4 < 8 by decide), hL4m, hm46]
    simp [V.mv, mvL, mvI, mvU, ndV, newT]
  · have hL5 := (hfree 5 rfl).1
    simp only [killH]
    simp only [Ob.kill, killL, tokL_kill, pts_kill (show 5 < 8 by decide), hL5, hk5]
    simp [V.kill, killL, keepU]
end
end Go.Proofs.YtbdogoccjcifnaaDoor
