/- An own row lent to a reader whose contract asks something of the world. No conditions. -/
import Derived.Test.YtmjglpdfkkmcoaaDoorBldd
import Derived.Test.YtmjglpdfkkmcoaaDoorBoXa
import Derived.Test.YtmjglpdfkkmcoaaDoorJoin
import Derived.Shelf.Strconv.Itoa3
import Derived.Lib.ItoaLen
import Derived.Lib.AppendIntMem
import Derived.Test.YtmjglpdfkkmcoaaDoorAwy
/-! The key of a list of ints: told apart as the lists are; walked. No conditions. -/
set_option linter.unusedSimpArgs false
set_option linter.unusedVariables false
set_option maxRecDepth 100000
namespace Go.Proofs.YtmjglpdfkkmcoaaDoor
open Go.RowKit Go.Shelf

def renItoa : Ren := {
  f := fun x => match x with | 171 => 51 | 243 => 56 | 246 => 58 | 283 => 59 | 284 => 60 | 285 => 61 | 286 => 62 | 129 => 64 | 317 => 63 | 318 => 65 | 319 => 66 | 320 => 67 | 337 => 68 | 338 => 69 | n => n
  t := fun x => match x with | 3 => 3 | 9 => 9 | 2 => 2 | 4 => 4 | 171 => 130 | 0 => 0 | 53 => 123 | 37 => 111 | 5 => 5 | 173 => 133 | 212 => 136 | 51 => 120 | 20 => 20 | 213 => 137 | 46 => 106 | 232 => 140 | 233 => 141 | n => n
  g := fun x => match x with | 17 => 2 | 18 => 3 | 19 => 4 | n => n }
theorem laysItoa : LaysM.n171 Tryd.prog renItoa := {
  mixed := by kernel_rfl
  f129 := Tryd.func64.trans (congrArg some (by kernel_rfl))
  f171 := Tryd.func51.trans (congrArg some (by kernel_rfl))
  f243 := Tryd.func56.trans (congrArg some (by kernel_rfl))
  f246 := Tryd.func58.trans (congrArg some (by kernel_rfl))
  f283 := Tryd.func59.trans (congrArg some (by kernel_rfl))
  f284 := Tryd.func60.trans (congrArg some (by kernel_rfl))
  f285 := Tryd.func61.trans (congrArg some (by kernel_rfl))
  f286 := Tryd.func62.trans (congrArg some (by kernel_rfl))
  f317 := Tryd.func63.trans (congrArg some (by kernel_rfl))
  f318 := Tryd.func65.trans (congrArg some (by kernel_rfl))
  f319 := Tryd.func66.trans (congrArg some (by kernel_rfl))
  f320 := Tryd.func67.trans (congrArg some (by kernel_rfl))
  f337 := Tryd.func68.trans (congrArg some (by kernel_rfl))
  f338 := Tryd.func69.trans (congrArg some (by kernel_rfl))
  t0 := Tryd.underlying0
  a0 := Tryd.isAgg0
  z0 := Tryd.sizeOf0
  v0 := Tryd.zeroValue0
  t2 := Tryd.underlying2
  a2 := Tryd.isAgg2
  z2 := Tryd.sizeOf2
  v2 := Tryd.zeroValue2
  t3 := Tryd.underlying3
  a3 := Tryd.isAgg3
  z3 := Tryd.sizeOf3
  v3 := Tryd.zeroValue3
  t4 := Tryd.underlying4
  a4 := Tryd.isAgg4
  z4 := Tryd.sizeOf4
  v4 := Tryd.zeroValue4
  t5 := Tryd.underlying5
  a5 := Tryd.isAgg5
  z5 := Tryd.sizeOf5
  v5 := Tryd.zeroValue5
  t9 := Tryd.underlying9
  a9 := Tryd.isAgg9
  z9 := Tryd.sizeOf9
  v9 := Tryd.zeroValue9
  t20 := Tryd.underlying20
  a20 := Tryd.isAgg20
  z20 := Tryd.sizeOf20
  v20 := Tryd.zeroValue20
  t37 := Tryd.underlying111
  a37 := Tryd.isAgg111
  z37 := Tryd.sizeOf111
  v37 := Tryd.zeroValue111
  t46 := Tryd.underlying106
  a46 := Tryd.isAgg106
  z46 := Tryd.sizeOf106
  v46 := Tryd.zeroValue106
  t51 := Tryd.underlying120
  a51 := Tryd.isAgg120
  z51 := Tryd.sizeOf120
  v51 := Tryd.zeroValue120
  t53 := Tryd.underlying123
  a53 := Tryd.isAgg123
  z53 := Tryd.sizeOf123
  v53 := Tryd.zeroValue123
  t171 := Tryd.underlying130
  a171 := Tryd.isAgg130
  z171 := Tryd.sizeOf130
  v171 := Tryd.zeroValue130
  t173 := Tryd.underlying133
  a173 := Tryd.isAgg133
  z173 := Tryd.sizeOf133
  v173 := Tryd.zeroValue133
  t212 := Tryd.underlying136
  a212 := Tryd.isAgg136
  z212 := Tryd.sizeOf136
  v212 := Tryd.zeroValue136
  t213 := Tryd.underlying137
  a213 := Tryd.isAgg137
  z213 := Tryd.sizeOf137
  t232 := Tryd.underlying140
  a232 := Tryd.isAgg140
  z232 := Tryd.sizeOf140
  v232 := Tryd.zeroValue140
  t233 := Tryd.underlying141
  a233 := Tryd.isAgg141
  z233 := Tryd.sizeOf141
  v233 := Tryd.zeroValue141
  g17 := by kernel_rfl
  g18 := by kernel_rfl
  g19 := by kernel_rfl
  i0 := by kernel_rfl
  i2 := by kernel_rfl
  i3 := by kernel_rfl
  i4 := by kernel_rfl
  i5 := by kernel_rfl
  i9 := by kernel_rfl
  i20 := by kernel_rfl
  i37 := by kernel_rfl
  i46 := by kernel_rfl
  i51 := by kernel_rfl
  i53 := by kernel_rfl
  i171 := by kernel_rfl
  i173 := by kernel_rfl
  i212 := by kernel_rfl
  i232 := by kernel_rfl
  i233 := by kernel_rfl
  m17 := by kernel_rfl
  m18 := by kernel_rfl
  m19 := by kernel_rfl }

/-- The table that strconv reads. -/
def GT (w : World) : Prop := Lib.TabIs Tryd.prog w "internal/strconv.uint64pow10" .u64 Lib.pow10Tab
theorem kept_gt : KeptG GT := fun w w' hk h => by
  unfold GT Lib.TabIs World.var? at *
  cases hg : Tryd.prog.globalNamed "internal/strconv.uint64pow10" with
  | none => simp [hg] at h
  | some g =>
    simp only [hg, Option.bind_some] at h ⊢
    have hlt : g < w.heap.size := by
      rcases Nat.lt_or_ge g w.heap.size with h' | h'
      · exact h'
      · rw [Array.getElem?_eq_none h'] at h; simp at h
    rw [hk.block g hlt (fun h => h)]
    exact h
theorem itoa_walk (n : Int) (h0 : -9223372036854775808 ≤ n) (h1 : n ≤ 9223372036854775807) : Fn1G Tryd.prog GT 51 [.int .i64 n] (fun r => r = .str (Lib.itoa n)) := by
  intro w I vs hG hl hv hI
  obtain ⟨v0, rfl⟩ : ∃ v0, vs = [v0] := by
    match vs, hl with
    | [a], _ => exact ⟨a, rfl⟩
  have e0 : v0 = .int .i64 n := (Rep.pure (bl := fun _ => none) _ _ (hv 0 v0 _ rfl rfl)).inv_int
  subst e0
  have hlen := Lib.itoa_length_le n h0 h1
  refine fn1_str hI (by omega) ((Any.strconv_Itoa laysItoa n h0 h1 w hG).mono ?_)
  rintro e w' ⟨rfl, k, os, rfl⟩
  exact ⟨rfl, Lib.below_grow _ _ (Nat.le_refl _) k os⟩

/-! ### Keys tell lists apart -/
def keyS (l : List Int) : List UInt8 := l.flatMap fun n => Lib.itoa n ++ [32]
def dval (l : List UInt8) : Nat := l.foldl (fun a d => a * 10 + (d.toNat - 48)) 0
theorem dval_dec (u : Nat) : dval (Lib.decDigits u) = u := by
  induction u using Nat.strongRecOn with
  | _ u ih =>
    rw [Lib.decDigits]
    split
    · rename_i h
      simp only [dval, List.foldl_cons, List.foldl_nil, UInt8.toNat_ofNat']
      omega
    · rename_i h
      have := ih (u / 10) (by omega)
      unfold dval at this ⊢
      rw [List.foldl_append, this]
      simp only [List.foldl_cons, List.foldl_nil, UInt8.toNat_ofNat']
      omega
theorem dec_range (u : Nat) : ∀ c ∈ Lib.decDigits u, 48 ≤ c.toNat ∧ c.toNat ≤ 57 := by
  induction u using Nat.strongRecOn with
  | _ u ih =>
    rw [Lib.decDigits]
    split
    · rename_i h
      intro c hc
      simp only [List.mem_singleton] at hc
      subst hc
      rw [UInt8.toNat_ofNat']
      omega
    · rename_i h
      intro c hc
      rcases List.mem_append.1 hc with hc | hc
      · exact ih (u / 10) (by omega) c hc
      · simp only [List.mem_singleton] at hc
        subst hc
        rw [UInt8.toNat_ofNat']
        omega
theorem itoa_range (n : Int) : ∀ c ∈ Lib.itoa n, 45 ≤ c.toNat := by
  intro c hc
  unfold Lib.itoa at hc
  split at hc
  · rcases List.mem_cons.1 hc with rfl | hc
    · decide
    · have := dec_range _ c hc; omega
  · have := dec_range _ c hc; omega
def ival (l : List UInt8) : Int := match l with
  | [] => 0
  | c :: r => if c = 45 then -(dval r : Int) else dval (c :: r)
theorem ival_itoa (n : Int) : ival (Lib.itoa n) = n := by
  unfold Lib.itoa
  split
  · simp only [ival, if_true, dval_dec]
    omega
  · have h1 := dec_range n.toNat
    have h2 := dval_dec n.toNat
    cases h : Lib.decDigits n.toNat with
    | nil => rw [h] at h2; simp only [ival]; simp [dval] at h2; omega
    | cons c r =>
      rw [h] at h1 h2
      have hc := h1 c (by simp)
      have : c ≠ 45 := fun e => by subst e; simp at hc
      simp only [ival, if_neg this, h2]
      omega
theorem sep_inj {a b x y : List UInt8} (ha : (32 : UInt8) ∉ a) (hb : (32 : UInt8) ∉ b) (h : a ++ 32 :: x = b ++ 32 :: y) : a = b ∧ x = y := by
  induction a generalizing b with
  | nil =>
    cases b with
    | nil => simp at h; exact ⟨rfl, h⟩
    | cons c b => simp at h; exact absurd (by simp [h.1]) hb
  | cons d a ih =>
    cases b with
    | nil => simp at h; exact absurd (by simp [h.1]) ha
    | cons c b =>
      simp only [List.cons_append, List.cons.injEq] at h
      obtain ⟨rfl, h⟩ := h
      obtain ⟨e1, e2⟩ := ih (fun m => ha (by simp [m])) (fun m => hb (by simp [m])) h
      exact ⟨by rw [e1], e2⟩
theorem no_space (n : Int) : (32 : UInt8) ∉ Lib.itoa n := fun h => by
  have := itoa_range n 32 h
  simp at this
theorem keyS_inj : ∀ {l m : List Int}, keyS l = keyS m → l = m
  | [], [], _ => rfl
  | [], n :: m, h => by simp [keyS] at h
  | n :: l, [], h => by simp [keyS] at h
  | n :: l, k :: m, h => by
    simp only [keyS, List.flatMap_cons, List.append_assoc, List.cons_append, List.nil_append] at h
    obtain ⟨e1, e2⟩ := sep_inj (no_space n) (no_space k) h
    have := congrArg ival e1
    rw [ival_itoa, ival_itoa] at this
    rw [this, keyS_inj e2]
def keyV (l : List Int) : Value := .string ⟨(keyS l).toArray⟩
def keyA (l : List Int) : V := .str (keyS l)
theorem key_ok : KeyOk Tryd.prog 104 keyV keyA where
  map := ⟨9, 3, by kernel_rfl, fun w => Tryd.zeroValue3 w, fun e a w => MapKept.run_checkKey (d := .string) (k := keyV a) (by kernel_rfl) (show MapKept.IsKey .string (keyV a) from trivial) e 9999, fun a w L es h => find_by_now (d := .string) (by kernel_rfl) (fun a b => by
    simp only [keyV, Instr.sameNow]
    congr 1
    rw [Bool.eq_iff_iff, MapKept.bytes_beq]
    simp only [decide_eq_true_eq]
    constructor
    · intro e
      have := congrArg (fun x : ByteArray => x.data.toList) e
      exact keyS_inj (by simpa using this)
    · rintro rfl; rfl) a w L es h⟩
  rep := fun w I bl v a h => by
    obtain ⟨t, rfl, ht, _⟩ := h.inv_str
    unfold keyV
    rw [← ht]
theorem keyS_len (l : List Int) (h : ∀ x ∈ l, -9223372036854775808 ≤ x ∧ x ≤ 9223372036854775807) : (keyS l).length ≤ 22 * l.length := by
  induction l with
  | nil => simp [keyS]
  | cons n l ih =>
    have h1 := ih (fun x hx => h x (by simp [hx]))
    have h2 := Lib.itoa_length_le n (h n (by simp)).1 (h n (by simp)).2
    simp only [keyS, List.flatMap_cons, List.length_append, List.length_cons, List.length_nil] at h1 ⊢
    omega
set_option maxHeartbeats 8000000 in
theorem key_walk (l : List Int) (hl : l.length ≤ 1000) (h : ∀ x ∈ l, -9223372036854775808 ≤ x ∧ x ≤ 9223372036854775807) : Fn1G Tryd.prog GT 47 [ints l] (fun r => r = .str (keyS l)) := by
  have hlm : (l.map (V.int .i64)).length = l.length := by simp
  unfold ints
  refine fn1GE (T := Tryd.tt) Tryd.func47 rfl tt_all follows_all ?_ ?_ fun C hC hW hG hE => ?_
  · kernel_rfl
  · exact Nat.le_of_ble_eq_true (by kernel_rfl)
  conv => whnf
  repeat' (first | (refine brd_t (by first | assumption | omega) ?_; conv => whnf) | (refine brd_f (by first | assumption | omega) ?_; conv => whnf) | (refine ask (by first | assumption | omega) ?_; conv => whnf) | (refine fit64 (by omega) ?_; conv => whnf) | (refine fit (by simp only [kmin, kmax]; omega) ?_; conv => whnf) | (refine br_t (by assumption) ?_; conv => whnf) | (refine br_f (by assumption) ?_; conv => whnf) | (refine get_of (by assumption) ?_; conv => whnf) | (refine get_map (by assumption) ?_; conv => whnf) | (refine draw_lex hE ?_ ?_; decide +kernel; conv => whnf) | (refine brd (fun h => ?_) (fun h => ?_) <;> conv => whnf) | (refine br (fun h => ?_) (fun h => ?_) <;> conv => whnf) | (refine ret_now hE ?_; conv => whnf) | (intro hlen; conv => whnf) | (refine seg_here ?_; conv => whnf) | (refine both ?_ ?_ <;> conv => whnf))
  refine loopE (fun ((k, o) : Nat × List UInt8) => ⟨18, [(3, .ptr 0 0 0), (6, .lst (l.map (V.int .i64))), (7, .int .i64 (l.map (V.int .i64)).length), (8, .int .i64 k)], [some (.bld 113 (some (1, o.length))), some (.buf 5 o)]⟩)
    (fun (k, o) => k ≤ l.length ∧ o = keyS (l.take k)) (fun (k, _) => l.length - k) (0, []) hE ?_ ?_ ⟨Nat.zero_le _, rfl⟩ ?_
  · kernel_rfl
  · exact up_buf 0 5 rfl (at_keep [3, 6, 7, 8] rfl)
  rintro ⟨k, o⟩ ⟨hk, ho⟩
  have hol : o.length ≤ 22 * k := by
    rw [ho]
    have := keyS_len (l.take k) (fun x hx => h x (List.mem_of_mem_take hx))
    simp at this
    omega
  by_cases hlt : k < l.length
  · obtain ⟨x, hx⟩ : ∃ x, l[k]? = some x := ⟨_, List.getElem?_eq_getElem hlt⟩
    obtain ⟨hx0, hx1⟩ := h x (List.mem_of_getElem? hx)
    have hit := (itoa_walk x hx0 hx1).c hC hW kept_gt hG
    have hil := Lib.itoa_length_le x hx0 hx1
    have hnew : o ++ (Lib.itoa x ++ [32]) = keyS (l.take (k + 1)) := by
      rw [ho, List.take_add_one, hx]
      simp [keyS]
    conv => whnf
    repeat' (first | (refine brd_t (by first | assumption | omega) ?_; conv => whnf) | (refine brd_f (by first | assumption | omega) ?_; conv => whnf) | (refine ask (by first | assumption | omega) ?_; conv => whnf) | (refine fit64 (by omega) ?_; conv => whnf) | (refine fit (by simp only [kmin, kmax]; omega) ?_; conv => whnf) | (refine br_t (by assumption) ?_; conv => whnf) | (refine br_f (by assumption) ?_; conv => whnf) | (refine get_of (by assumption) ?_; conv => whnf) | (refine get_map (by assumption) ?_; conv => whnf) | (refine callc_eq (hit) hC hasBody_51 rfl ?_ ?_ ?_; kernel_rfl; kernel_rfl; conv => whnf) | (refine callcq_eq (hit) hC hasBody_51 rfl ?_ ?_ ?_; kernel_rfl; kernel_rfl; conv => whnf) | (refine call_ws hC 0 1 (by decide) ?_ rfl rfl rfl ?_; (simp; omega); conv => whnf) | (refine ask ?_ ?_; (simp; omega); conv => whnf) | (refine draw_lex hE ?_ ?_; decide +kernel; conv => whnf) | (refine brd (fun h => ?_) (fun h => ?_) <;> conv => whnf) | (refine br (fun h => ?_) (fun h => ?_) <;> conv => whnf) | (refine ret_now hE ?_; conv => whnf) | (intro hlen; conv => whnf) | (refine seg_here ?_; conv => whnf) | (refine both ?_ ?_ <;> conv => whnf))
    exact next_keep [3, 6, 7, 8] (k + 1, o ++ (Lib.itoa x ++ [32])) ⟨hlt, hnew⟩ (show l.length - (k + 1) < l.length - k by omega) rfl
  · conv => whnf
    repeat' (first | (refine brd_t (by first | assumption | omega) ?_; conv => whnf) | (refine brd_f (by first | assumption | omega) ?_; conv => whnf) | (refine ask (by first | assumption | omega) ?_; conv => whnf) | (refine fit64 (by omega) ?_; conv => whnf) | (refine fit (by simp only [kmin, kmax]; omega) ?_; conv => whnf) | (refine br_t (by assumption) ?_; conv => whnf) | (refine br_f (by assumption) ?_; conv => whnf) | (refine get_of (by assumption) ?_; conv => whnf) | (refine get_map (by assumption) ?_; conv => whnf) | (refine call_str hC 0 1 (by decide) rfl rfl rfl ?_; conv => whnf) | (refine draw_lex hE ?_ ?_; decide +kernel; conv => whnf) | (refine brd (fun h => ?_) (fun h => ?_) <;> conv => whnf) | (refine br (fun h => ?_) (fun h => ?_) <;> conv => whnf) | (refine ret_now hE ?_; conv => whnf) | (intro hlen; conv => whnf) | (refine seg_here ?_; conv => whnf) | (refine both ?_ ?_ <;> conv => whnf))
    exact ⟨rfl, by rw [ho, List.take_of_length_le (by omega)]⟩
end Go.Proofs.YtmjglpdfkkmcoaaDoor

/-! An own row lent to a reader whose contract asks something of the world. No conditions. -/
namespace Go.Proofs.YtmjglpdfkkmcoaaDoor
open Go.RowKit

theorem acall_lendC {C : Ctx} {f : FuncId} {xs : List V} {r0 : V} {K : V → St → Prop} {σ : St} (id : Nat) {z : Nat} {els : List V} (hrow : σ.row id = some (z, els)) (hnr : nrL els) (h : FnC C f (frzL id els xs) (fun r => r = r0)) (hx : nrL (frzL id els xs)) (hs : scV r0 = true) (hk : K r0 σ) : ACall C f xs K σ := by
  intro a w vs ⟨I, bl, h1, h2, h3, h4⟩
  obtain ⟨bi, hb1, hb2, hb3, hb4⟩ := h4.obj id _ (row_some hrow)
  let I' : Nat → Prop := fun b => I b ∨ bi.blk = some b
  let bl' : Nat → Option BI := fun k => if k = id then none else bl k
  have hb : ∀ k, k ≠ id → bl' k = bl k := fun k hk => if_neg hk
  have hf : Frz w I I' bl bl' id els := by
    refine ⟨fun b h => .inl h, hb, ?_, ?_⟩
    · intro i b h1 h2
      rw [hb1] at h1
      simp only [Option.some.injEq] at h1
      subst h1
      refine ⟨.inr h2, fun k x hx => by rw [hb2]; exact hb3 k x hx, ?_⟩
      rw [h2] at hb4
      obtain ⟨cur, e, hg, hsz, hc⟩ := hb4
      intro k x j c hx hxc
      obtain ⟨u, hu, h1', hr⟩ := hc k x j c hx hxc
      refine ⟨u, ?_, h1', (hr.pr (nr_cells (nrL_get els k x hnr hx) j c hxc)).later (fun _ _ => rfl) (fun b h => .inl h)⟩
      rw [hg.cell, hb2]
      exact hu
    · intro i h1 h2
      rw [hb1] at h1
      simp only [Option.some.injEq] at h1
      subst h1
      rw [h2] at hb4
      exact hb4
  have hI'lt : ∀ b, I' b → b < w.heap.size := by
    rintro b (hb | hb)
    · exact (h4.imm b hb).1
    · exact (h4.own id bi b hb1 hb).1
  refine (h w I' vs h4.kept (by rw [frzL_length]; exact h3.1) (fun i v x hv hx' => ?_) hI'lt).mono ?_
  · obtain ⟨y, hy, rfl⟩ := frzL_get id els xs i x hx'
    exact ((h3.2 i v y hv hy).frz hf).pr (nrL_get _ i _ hx hx')
  rintro e w' ⟨v, r, I'', rfl, rfl, hpr, hI'', hkept⟩
  refine ⟨v, r, σ, rfl, hk, ?_⟩
  have hsame : ∀ b, b < w.heap.size → w'.heap[b]? = w.heap[b]? := fun b hb => hkept.block b hb (fun h => h)
  have hl : Later I w w' := ⟨fun b hb => hsame b (h4.imm b hb).1, fun b s hs => by
    have hlt : b < w.heap.size := by
      unfold World.shape? at hs
      split at hs
      · rename_i h; exact (Array.getElem?_eq_some_iff.1 h).1
      · cases hs
    rw [shape_of_heap (hsame b hlt)]; exact hs⟩
  have hI : ∀ b, I b → I b := fun b hb => hb
  refine ⟨I, bl, h1, h2.later hl hI (fun _ _ h => h), ⟨rfl, fun i v' x hv hx' => ?_⟩, ⟨fun id o ho => (h4.obj id o ho).later hl hI (fun _ _ h => h) (fun i b hb1 hb2 => hsame b (h4.own id i b hb1 hb2).1) (fun h => h), h4.live, h4.apart, fun id i b hb1 hb2 => ?_, fun k hk' => ?_, h4.kept.trans ⟨hkept.os, hkept.tape, hkept.output, hkept.size, fun k hk1 _ => hkept.block k hk1 (fun h => h), hkept.shape⟩⟩⟩
  · cases i with
    | zero => simp at hv hx'; subst hv; subst hx'; exact .pure _ _ (hpr.sc hs)
    | succ i => simp at hv
  · obtain ⟨g1, g2, g3⟩ := h4.own id i b hb1 hb2
    exact ⟨Nat.lt_of_lt_of_le g1 hkept.size, g2, g3⟩
  · obtain ⟨g1, g2⟩ := h4.imm k hk'
    exact ⟨Nat.lt_of_lt_of_le g1 hkept.size, g2⟩
theorem callc_lend {C : Ctx} {P : Program} {fop : Operand} {args : List Operand} {f : FuncId} {xs xs' : List V} {r : V} {K : V → ES → Prop} {σ : ES} (id : Nat) {z : Nat} {els : List V} (h : FnC C f xs' (fun r' => r' = r)) (hC : C.P = P) (hb : hasBody P f = true) (hr : σ.heap[id]? = some (some (.row z els))) (hnr : nrL els) (hs : scV r = true) (e : frzL id els xs = xs') (hn : nrB xs' = true) (he : evalC σ fop args = some (f, xs)) (hk : K r σ) : CallN C fop args f xs K σ := by
  subst hC
  subst e
  obtain ⟨caps, h1, h2⟩ := evalC_spec he
  refine ⟨up_intro ?_⟩
  unfold CallAt
  rw [h1]
  simp only
  rw [h2]
  exact ⟨hb, acall_lendC id (z := z) (els := els) (by simp [St.row, ES.st, hr]) hnr h (nrB_nrL _ hn) hs (kst hk)⟩
/-- A call by a contract that is a relation, and asks something of the world. -/
theorem callc_fn {C : Ctx} {P : Program} {fop : Operand} {args : List Operand} {f : FuncId} {xs : List V} {R : V → Prop} {K : V → ES → Prop} {σ : ES} (h : FnC C f xs R) (hC : C.P = P) (hb : hasBody P f = true) (he : evalC σ fop args = some (f, xs)) (hn : nrB xs = true) (hk : ∀ r, R r → K r σ) : CallN C fop args f xs K σ := by
  subst hC
  obtain ⟨caps, h1, h2⟩ := evalC_spec he
  refine ⟨up_intro ?_⟩
  unfold CallAt
  rw [h1]
  simp only
  rw [h2]
  exact ⟨hb, acall_fnC h (nrB_nrL _ hn) fun r hr => kst (hk r hr)⟩
end Go.Proofs.YtmjglpdfkkmcoaaDoor
