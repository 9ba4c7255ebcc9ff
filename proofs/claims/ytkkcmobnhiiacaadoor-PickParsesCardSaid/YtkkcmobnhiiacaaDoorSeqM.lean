/- SamePicks at equal lists; the law PickParses. No conditions. -/
import Derived.Test.YtkkcmobnhiiacaaDoorPpLaw
import Derived.Shelf.Strings.Search3
import Derived.RangeFuncNested
import Derived.RangeFuncBound
import Derived.RangeFuncCalls
import Derived.RangeFuncLeaves
import Derived.Shelf.Abstract
import Derived.Shelf.RegionOpen
import Derived.WalkKit
import Derived.OwnWalkIn
import Derived.TacticsInMore
import Derived.LoopNIn
import Derived.LoopIn
import Derived.Test.YtkkcmobnhiiacaaDoorStyJ
import Derived.Test.YtkkcmobnhiiacaaDoorPpLawB
import Derived.RangeFuncBox
import Derived.Maps.AppendAt
import Derived.Lib.IndexBytes
import Derived.Shelf.Small.Wraps
import Derived.Test.YtkkcmobnhiiacaaDoorPpRefC
/-! strings.SplitSeq(s, " "): its iterator, for every loop body that keeps the iterator's own boxes. No conditions. -/
set_option linter.unusedSimpArgs false
set_option linter.unusedVariables false
set_option maxRecDepth 100000
namespace Go.Proofs.YtkkcmobnhiiacaaDoor
open Go.RowKit Go.Shelf
attribute [local go_sem] Oper.semAt_some

def renIndex : Ren := {
  f := fun x => match x with | 143 => 84 | 219 => 85 | 217 => 101 | 225 => 102 | 224 => 103 | 267 => 104 | 266 => 113 | 314 => 114 | n => n
  t := fun x => match x with | 9 => 9 | 3 => 3 | 4 => 4 | 5 => 5 | 46 => 160 | 146 => 172 | 51 => 171 | n => n
  g := fun x => match x with | 1 => 2 | n => n }
theorem laysIndex : Lays.n143 Tryd.prog renIndex := {
  mixed := by kernel_rfl
  f143 := Tryd.func84.trans (congrArg some (by kernel_rfl))
  f217 := Tryd.func101.trans (congrArg some (by kernel_rfl))
  f219 := Tryd.func85.trans (congrArg some (by kernel_rfl))
  f224 := Tryd.func103.trans (congrArg some (by kernel_rfl))
  f225 := Tryd.func102.trans (congrArg some (by kernel_rfl))
  f266 := Tryd.func113.trans (congrArg some (by kernel_rfl))
  f267 := Tryd.func104.trans (congrArg some (by kernel_rfl))
  f314 := Tryd.func114.trans (congrArg some (by kernel_rfl))
  t3 := Tryd.underlying3
  a3 := Tryd.isAgg3
  z3 := Tryd.sizeOf3
  v3 := Tryd.zeroValue3
  t4 := Tryd.underlying4
  a4 := Tryd.isAgg4
  z4 := Tryd.sizeOf4
  v4 := Tryd.zeroValue4
  t5 := Tryd.underlying5
  a5 := Tryd.isAgg5
  z5 := Tryd.sizeOf5
  v5 := Tryd.zeroValue5
  t9 := Tryd.underlying9
  a9 := Tryd.isAgg9
  z9 := Tryd.sizeOf9
  v9 := Tryd.zeroValue9
  t46 := Tryd.underlying160
  a46 := Tryd.isAgg160
  z46 := Tryd.sizeOf160
  v46 := Tryd.zeroValue160
  t51 := Tryd.underlying171
  a51 := Tryd.isAgg171
  z51 := Tryd.sizeOf171
  v51 := Tryd.zeroValue171
  t146 := Tryd.underlying172
  a146 := Tryd.isAgg172
  z146 := Tryd.sizeOf172
  v146 := Tryd.zeroValue172
  g1 := by kernel_rfl }

/-! ### Splitting at the first space -/
theorem split_none : ∀ {s : Ys}, Lib.indexByte s 32 = -1 → splitW s = [s]
  | [], _ => rfl
  | c :: r, h => by
    unfold Lib.indexByte at h
    by_cases hc : (c == 32) = true
    · rw [if_pos hc] at h; cases h
    · rw [if_neg hc] at h
      have hc' : c ≠ 32 := by simpa using hc
      by_cases hr : (Lib.indexByte r 32 == -1) = true
      · have := split_none (s := r) (by simpa using hr)
        rw [splitW, if_neg hc', this]
      · rw [if_neg hr] at h
        have h1 := Lib.indexByte_ge r 32
        have h2 : Lib.indexByte r 32 ≠ -1 := by simpa using hr
        omega
theorem split_some : ∀ {s : Ys} {o : Nat}, Lib.indexByte s 32 = o → o < s.length ∧ splitW s = s.take o :: splitW (s.drop (o + 1))
  | [], o, h => by unfold Lib.indexByte at h; omega
  | c :: r, o, h => by
    unfold Lib.indexByte at h
    by_cases hc : (c == 32) = true
    · rw [if_pos hc] at h
      obtain rfl : o = 0 := by omega
      have hc' : c = 32 := by simpa using hc
      refine ⟨by simp, ?_⟩
      rw [splitW, if_pos hc']
      rfl
    · rw [if_neg hc] at h
      have hc' : c ≠ 32 := by simpa using hc
      by_cases hr : (Lib.indexByte r 32 == -1) = true
      · rw [if_pos hr] at h; omega
      · rw [if_neg hr] at h
        obtain ⟨o', rfl⟩ : ∃ o', o = o' + 1 := ⟨o - 1, by
          have h1 := Lib.indexByte_ge r 32
          have h2 : Lib.indexByte r 32 ≠ -1 := by simpa using hr
          omega⟩
        obtain ⟨h1, h2⟩ := split_some (s := r) (o := o') (by omega)
        refine ⟨by simp; omega, ?_⟩
        rw [splitW, if_neg hc', h2]
        simp

/-! ### The iterator -/
def SBox (bp bs bz : Nat) (w : World) (r : Ys) : Prop :=
  w.cell? ⟨bp, 0, none⟩ = some (.string ⟨#[32]⟩) ∧ w.cell? ⟨bs, 0, none⟩ = some (.string ⟨r.toArray⟩) ∧ w.cell? ⟨bz, 0, none⟩ = some (.int .i64 (0 : Nat)) ∧ w.frozen? ⟨bs, 0, none⟩ = false
def bsLen (bs : Nat) (w : World) : Nat := match w.cell? ⟨bs, 0, none⟩ with
  | some (.string b) => b.size
  | _ => 0
theorem bsLen_eq {bp bs bz : Nat} {w : World} {r : Ys} (h : SBox bp bs bz w r) : bsLen bs w = r.length := by
  unfold bsLen
  rw [h.2.1]
  rfl
set_option maxRecDepth 100000 in
set_option maxHeartbeats 8000000 in
theorem split_iter (l bp bs bz : Nat) (hne1 : bp ≠ bs) (hne2 : bz ≠ bs) (J : List Ys → World → Prop)
    (hJ : ∀ pre W v, J pre W → J pre (W.setCell ⟨bs, 0, none⟩ v))
    (s : Ys) (hY : ∀ pre x r W, J pre W → SBox bp bs bz W r → (∃ t, pre ++ x :: t = splitW s) → YieldAt Fence.wide 3 Tryd.prog l #[.string ⟨x.toArray⟩] W fun e W' => e = .returned (.bool true) ∧ J (pre ++ [x]) W' ∧ SBox bp bs bz W' r)
    (W : World) (hs : s.length ≤ 1048576) (hb : SBox bp bs bz W s) (h0 : J [] W) :
    CallsIn Fence.wide 4 Tryd.prog 82 #[.func (.yield l) #[] #[], .pointer (some ⟨bp, 0, none⟩), .pointer (some ⟨bs, 0, none⟩), .pointer (some ⟨bz, 0, none⟩)] W fun e W' => (∃ v, e = .returned v) ∧ J (splitW s) W' := by
  obtain ⟨hb1, hb2, hb3, hb4⟩ := id hb
  refine callsIn_of_wp Tryd.func82 rfl trivial ?_
  simp only [Tryd.ntmps82, List.size_toArray, List.length_cons, List.length_nil, Nat.reduceAdd, Nat.reduceSub, Array.replicate_succ, Array.replicate_zero, List.push_toArray, List.append_toArray, List.nil_append, List.cons_append]
  gi_wp2
  gi_loopw [] (fun wr => ∃ pre r, SBox bp bs bz wr r ∧ J pre wr ∧ r.length ≤ s.length ∧ pre ++ splitW r = splitW s) (fun wr => bsLen bs wr)
  case atStart => exact ⟨[], s, hb, h0, Nat.le_refl _, rfl⟩
  case round =>
    obtain ⟨pre, r, hb', hJr, hrl, hI⟩ := hrel
    obtain ⟨h1, h2, h3, h4⟩ := id hb'
    have hge := Lib.indexByte_ge r 32
    by_cases hn : Lib.indexByte r 32 = -1
    · have hsp := split_none hn
      have hn2 : Lib.indexByte r 32 < 0 := by omega
      obtain ⟨fn, tmps, assign, body, hy, hR⟩ := hY pre r r wr hJr hb' ⟨[], by rw [← hI, hsp]⟩
      gi_wp2_with (refine ⟨trivial, ?_⟩; gi_at_call 84; refine (callsIn_wide.2 (Any.strings_Index_one laysIndex ⟨r.toArray⟩ 32 _)).mono ?_; rintro e w' ⟨rfl, rfl⟩)
      refine hR.mono ?_
      rintro e W3 ⟨rfl, hJ3, hb3⟩
      gi_wp2
      go_end0
      refine ⟨⟨_, rfl⟩, ?_⟩
      rw [← hI, hsp]
      exact hJ3
    · obtain ⟨o, ho⟩ : ∃ o : Nat, Lib.indexByte r 32 = o := ⟨(Lib.indexByte r 32).toNat, by omega⟩
      obtain ⟨hol, hsp⟩ := split_some ho
      obtain ⟨fn, tmps, assign, body, hy, hR⟩ := hY pre (r.take o) r wr hJr hb' ⟨splitW (r.drop (o + 1)), by rw [← hI, hsp]⟩
      have hex : (⟨(r.take o).toArray⟩ : ByteArray) = (⟨r.toArray⟩ : ByteArray).extract 0 o := by
        apply ByteArray.ext
        simp [ByteArray.extract, ByteArray.copySlice]
      rw [hex] at hy
      have hn3 : ¬ ((o : Int) < 0) := by omega
      gi_wp2_with (refine ⟨trivial, ?_⟩; gi_at_call 84; refine (callsIn_wide.2 (Any.strings_Index_one laysIndex ⟨r.toArray⟩ 32 _)).mono ?_; rintro e w' ⟨rfl, rfl⟩)
      refine hR.mono ?_
      rintro e W3 ⟨rfl, hJ3, hb3⟩
      obtain ⟨k1, k2, k3, k4⟩ := id hb3
      gi_wp2
      go_roundw
      case rel =>
        have hex2 : (⟨(r.drop (o + 1)).toArray⟩ : ByteArray) = (⟨r.toArray⟩ : ByteArray).extract (o + 1) r.length := by
          apply ByteArray.ext
          simp [ByteArray.extract, ByteArray.copySlice]
          exact (List.take_of_length_le (by simp)).symm
        rw [← hex2]
        refine ⟨pre ++ [r.take o], r.drop (o + 1), ⟨?_, World.cell?_setCell_same' _ _ _ (by rw [k2]; rfl), ?_, (World.frozen?_setCell ..).trans k4⟩, hJ _ _ _ hJ3, by simp; omega, ?_⟩
        · rw [World.cell?_setCell_other]
          · exact k1
          · intro e; exact hne1 (by cases e; rfl)
        · rw [World.cell?_setCell_other]
          · exact k3
          · intro e; exact hne2 (by cases e; rfl)
        · rw [← hI, hsp]; simp
      case measure =>
        rw [bsLen_eq hb']
        unfold bsLen
        rw [World.cell?_setCell_same' _ _ _ (by rw [k2]; rfl)]
        simp only [ByteArray.size, ByteArray.extract, ByteArray.copySlice]
        simp
        omega
theorem seq_make (s : Ys) (w : World) : Calls Tryd.prog 23 #[.string ⟨s.toArray⟩, .string ⟨#[32]⟩] w fun e w' =>
    e = .returned (.func (.func 82) #[] #[.pointer (some ⟨w.heap.size + 1, 0, none⟩), .pointer (some ⟨w.heap.size, 0, none⟩), .pointer (some ⟨w.heap.size + 2, 0, none⟩)]) ∧
    w' = ((w.alloc (.cells #[.string ⟨s.toArray⟩] 9)).alloc (.cells #[.string ⟨#[32]⟩] 9)).alloc (.cells #[.int .i64 0] 3) := by
  have e1 : ∀ w, Calls Tryd.prog 55 #[.string ⟨s.toArray⟩, .string ⟨#[32]⟩, .int .i64 0] w fun e w' =>
      e = .returned (.func (.func 82) #[] #[.pointer (some ⟨w.heap.size + 1, 0, none⟩), .pointer (some ⟨w.heap.size, 0, none⟩), .pointer (some ⟨w.heap.size + 2, 0, none⟩)]) ∧
      w' = ((w.alloc (.cells #[.string ⟨s.toArray⟩] 9)).alloc (.cells #[.string ⟨#[32]⟩] 9)).alloc (.cells #[.int .i64 0] 3) := by
    intro w
    go_enter Tryd.func55, Tryd.ntmps55
    go_wp2
    exact ⟨rfl, _, results_tmp rfl _ _ _, rfl, rfl⟩
  go_enter Tryd.func23, Tryd.ntmps23
  go_wp2_with (go_at_call 55; refine (e1 _).mono ?_; rintro e w' ⟨rfl, rfl⟩)
  exact ⟨rfl, _, results_tmp rfl _ _ _, rfl, rfl⟩

/-! ### The statement -/
theorem put_cell {W : World} {l : Nat} {o : Obj} {a : Addr} (h : a.block ≠ l) : (W.putObj l o).cell? a = W.cell? a :=
  World.cell?_of_block (w := W) (w' := W.putObj l o) (a := a) (World.putObj_heap_other h)
theorem put_frozen {W : World} {l : Nat} {o : Obj} {a : Addr} (h : a.block ≠ l) : (W.putObj l o).frozen? a = W.frozen? a :=
  World.frozen?_of_block (w := W) (w' := W.putObj l o) (a := a) (World.putObj_heap_other h)
theorem SBox.put {bp bs bz : Nat} {W : World} {r : Ys} (h : SBox bp bs bz W r) {l : Nat} (o : Obj) (h1 : bp ≠ l) (h2 : bs ≠ l) (h3 : bz ≠ l) : SBox bp bs bz (W.putObj l o) r :=
  ⟨(put_cell h1).trans h.1, (put_cell h2).trans h.2.1, (put_cell h3).trans h.2.2.1, (put_frozen h2).trans h.2.2.2⟩
theorem alloc_cell {W : World} {o : Obj} {a : Addr} (h : a.block < W.heap.size) : (W.alloc o).cell? a = W.cell? a :=
  World.cell?_of_block (w := W) (w' := W.alloc o) (a := a) (heap_alloc_was W o _ h)
theorem alloc_frozen {W : World} {o : Obj} {a : Addr} (h : a.block < W.heap.size) : (W.alloc o).frozen? a = W.frozen? a :=
  World.frozen?_of_block (w := W) (w' := W.alloc o) (a := a) (heap_alloc_was W o _ h)
theorem SBox.alloc {bp bs bz : Nat} {W : World} {r : Ys} (h : SBox bp bs bz W r) (o : Obj) (h1 : bp < W.heap.size) (h2 : bs < W.heap.size) (h3 : bz < W.heap.size) : SBox bp bs bz (W.alloc o) r :=
  ⟨(alloc_cell h1).trans h.1, (alloc_cell h2).trans h.2.1, (alloc_cell h3).trans h.2.2.1, (alloc_frozen h2).trans h.2.2.2⟩
set_option maxHeartbeats 4000000 in
theorem range_split {g : Operand} {p : Tmp} {assign body : Code} {Q : Exit → Act → World → Prop} {a : Act} {w : World} {bp bs bz : Nat} (hne1 : bp ≠ bs) (hne2 : bz ≠ bs)
    (hl1 : bp < w.heap.size) (hl2 : bs < w.heap.size) (hl3 : bz < w.heap.size)
    (hg : a.eval g = .func (.func 82) #[] #[.pointer (some ⟨bp, 0, none⟩), .pointer (some ⟨bs, 0, none⟩), .pointer (some ⟨bz, 0, none⟩)])
    (s : Ys) (hs : s.length ≤ 1048576) (hb : SBox bp bs bz w s) (I : List Ys → World → Prop)
    (hI : ∀ pre W v, I pre W → I pre (W.setCell ⟨bs, 0, none⟩ v)) (hIp : ∀ pre W o, I pre W → I pre (W.putObj (w.heap.size + 1) o))
    (h0 : ∀ o1 o2, I [] ((w.alloc o1).alloc o2)) (a1 : Ys → Act)
    (hassign : ∀ (l : Nat) (x : Ys) (W : World) (K : Act → World → Prop), K (a1 x) W → assign.wpIn (Fence.wide.inRound l) 3 Tryd.prog (Exit.then K (fun _ _ _ => False)) { tmps := a.tmps.setIfInBounds p (.string ⟨x.toArray⟩), defers := [] } W)
    (hbody : ∀ (l : Nat) (pre : List Ys) (x r : Ys) (W : World), I pre W → SBox bp bs bz W r → (∃ t, pre ++ x :: t = splitW s) → w.heap.size + 2 ≤ W.heap.size →
      body.wpIn (Fence.wide.inRound l) 3 Tryd.prog (fun e _ W' => e = .normal ∧ I (pre ++ [x]) W' ∧ SBox bp bs bz W' r ∧ W'.heap[w.heap.size]? = W.heap[w.heap.size]? ∧ W'.heap[w.heap.size + 1]? = W.heap[w.heap.size + 1]?) (a1 x) W)
    (hdone : ∀ W, I (splitW s) W → W.heap[w.heap.size]? = some (.deferred (some [])) → Q .normal { a with defers := { target := .collected w.heap.size, args := #[] } :: a.defers } W) :
    (Code.rangeFunc g #[p] assign body).wpIn Fence.wide 5 Tryd.prog Q a w := by
  refine wpIn_rangeFunc ?_
  intro fn hfn
  obtain ⟨rec, hrec⟩ : ∃ rec : LoopState → Loop, rec = fun st => { state := st, pending := none, fn, tmps := a.tmps, params := #[p], assign, body, defers := w.heap.size } := ⟨_, rfl⟩
  obtain ⟨W1, hW1⟩ : ∃ W1, (w.alloc (.deferred (some []))).alloc (.loop (rec .ready)) = W1 := ⟨_, rfl⟩
  have hz1 : W1.heap.size = w.heap.size + 2 := by rw [← hW1]; simp
  have hR1 : W1.heap[w.heap.size + 1]? = some (.loop (rec .ready)) := by
    rw [← hW1]; have := World.alloc_heap_new (w.alloc (.deferred (some []))) (.loop (rec .ready)); rwa [World.size_alloc] at this
  have hD1 : W1.heap[w.heap.size]? = some (.deferred (some [])) := by
    rw [← hW1, heap_alloc_was _ _ _ (by simp)]; exact World.alloc_heap_new w _
  refine ⟨w.heap.size + 1, [{ target := .collected w.heap.size, args := #[] }], W1, { target := .fn (.func 82) #[.pointer (some ⟨bp, 0, none⟩), .pointer (some ⟨bs, 0, none⟩), .pointer (some ⟨bz, 0, none⟩)], args := #[.func (.yield (w.heap.size + 1)) #[] #[]] }, W1, 82,
    #[.func (.yield (w.heap.size + 1)) #[] #[], .pointer (some ⟨bp, 0, none⟩), .pointer (some ⟨bs, 0, none⟩), .pointer (some ⟨bz, 0, none⟩)], W1, ?_, ?_, ?_, ?_, ?_, ?_⟩
  · rw [← hW1, hrec]; exact run_enterLoop_outer _ _ _ _ _
  · simp only [resolve, hg]
    simp [go_sem]
  · intro f' _
    trivial
  · simp [invoke, go_sem]
  · intro h; cases h
  · refine (split_iter (w.heap.size + 1) bp bs bz hne1 hne2 (fun pre W => I pre W ∧ w.heap.size + 2 ≤ W.heap.size ∧ W.heap[w.heap.size + 1]? = some (.loop (rec .ready)) ∧ W.heap[w.heap.size]? = some (.deferred (some []))) ?_ s ?_ W1 hs ?_ ?_).mono ?_
    · rintro pre W v ⟨h1, h2, h3, h4⟩
      refine ⟨hI _ _ _ h1, by simpa using h2, ?_, ?_⟩
      · exact (Below.heap_setCell W ⟨bs, 0, none⟩ v _ (by show w.heap.size + 1 ≠ bs; omega)).trans h3
      · exact (Below.heap_setCell W ⟨bs, 0, none⟩ v _ (by show w.heap.size ≠ bs; omega)).trans h4
    · rintro pre x r W ⟨h1, h2, h3, h4⟩ hbx hx
      have hy := run_yield (P := Tryd.prog) (args := #[Value.string (⟨x.toArray⟩ : ByteArray)]) h3 (by rw [hrec]; rfl)
      rw [hrec] at hy
      have ef : ((#[p] : Array Tmp).zip #[Value.string (⟨x.toArray⟩ : ByteArray)]).foldl (fun tmps (t, a) => tmps.setIfInBounds t a) a.tmps = a.tmps.setIfInBounds p (.string ⟨x.toArray⟩) := by simp
      simp only [] at hy
      rw [ef] at hy
      refine ⟨fn, _, assign, body, hy, roundIn_of_wpIn hfn (hassign _ x W _ ?_)⟩
      refine ⟨_, run_beginRound h3 (by rw [hrec]), ?_⟩
      have h3' : (W.putObj (w.heap.size + 1) (.loop { rec .ready with state := .busy })).heap[w.heap.size + 1]? = some (.loop { rec .ready with state := .busy }) := World.putObj_heap_same (by omega)
      have h4' : (W.putObj (w.heap.size + 1) (.loop { rec .ready with state := .busy })).heap[w.heap.size]? = some (.deferred (some [])) := (World.putObj_heap_other (by omega)).trans h4
      refine wpIn_mono (hbody _ pre x r _ (hIp _ _ _ h1) (hbx.put _ (by omega) (by omega) (by omega)) hx (by simpa using h2)) ?_
      rintro e a3 W3 ⟨rfl, q1, q2, q3, q4⟩
      rw [h4'] at q3
      rw [h3'] at q4
      have hlt3 := (Array.getElem?_eq_some_iff.1 q4).1
      refine ⟨_, _, run_endRound none q4, rfl, ⟨hIp _ _ _ q1, by simp; omega, ?_, (World.putObj_heap_other (by omega)).trans q3⟩, q2.put _ (by omega) (by omega) (by omega)⟩
      rw [World.putObj_heap_same hlt3, hrec]
      rfl
    · rw [← hW1]
      exact (hb.alloc _ hl1 hl2 hl3).alloc _ (by simp; omega) (by simp; omega) (by simp; omega)
    · refine ⟨?_, by omega, hR1, hD1⟩
      rw [← hW1]
      exact h0 _ _
    · rintro e W2 ⟨⟨v, rfl⟩, h1, h2, h3, h4⟩
      have := run_endLoop (P := Tryd.prog) h3 (by rw [hrec]; simp)
      exact ⟨_, _, this, by
        rw [hrec]
        exact hdone _ (hIp _ _ _ h1) ((World.putObj_heap_other (by omega)).trans h4)⟩
end Go.Proofs.YtkkcmobnhiiacaaDoor

/-! pick.Parse, the program's: the walk of its loop over strings.SplitSeq. No conditions. -/
namespace Go.Proofs.YtkkcmobnhiiacaaDoor
open Go.RowKit Go.Shelf
attribute [local go_sem] Oper.semAt_some

def renSuf : Ren := {
  f := fun x => match x with | 104 => 25 | 211 => 57 | 207 => 86 | n => n
  t := fun x => match x with | 9 => 9 | 4 => 4 | 24 => 62 | 3 => 3 | n => n
  g := fun x => x }
theorem laysSuf : Lays.n104 Tryd.prog renSuf := {
  mixed := by kernel_rfl
  f104 := Tryd.func25.trans (congrArg some (by kernel_rfl))
  f207 := Tryd.func86.trans (congrArg some (by kernel_rfl))
  f211 := Tryd.func57.trans (congrArg some (by kernel_rfl))
  t3 := Tryd.underlying3
  a3 := Tryd.isAgg3
  z3 := Tryd.sizeOf3
  v3 := Tryd.zeroValue3
  t4 := Tryd.underlying4
  a4 := Tryd.isAgg4
  z4 := Tryd.sizeOf4
  v4 := Tryd.zeroValue4
  t9 := Tryd.underlying9
  a9 := Tryd.isAgg9
  z9 := Tryd.sizeOf9
  v9 := Tryd.zeroValue9
  t24 := Tryd.underlying62
  a24 := Tryd.isAgg62
  z24 := Tryd.sizeOf62
  v24 := Tryd.zeroValue62 }

def pkC (p : Pk) : List Value := [.string ⟨p.1.toArray⟩, .string ⟨p.2.1.toArray⟩, .bool p.2.2]
def stepW (a : List Pk × Bool) (x : Ys) : List Pk × Bool := if x = [62] then (a.1, false) else (a.1 ++ [(nameW x, attrW x, a.2)], true)
theorem fold_words : ∀ (ws : List Ys) (acc : List Pk) (d : Bool), (ws.foldl stepW (acc, d)).1 = acc ++ wordsP d ws
  | [], acc, d => by simp [wordsP]
  | w :: ws, acc, d => by
    rw [List.foldl_cons, wordsP]
    unfold stepW
    by_cases h : w = [62]
    · rw [if_pos h, if_pos h]
      exact fold_words ws acc false
    · rw [if_neg h, if_neg h]
      have := fold_words ws (acc ++ [(nameW w, attrW w, d)]) true
      unfold stepW at this
      rw [this]
      simp
/-- The loop's state between two rounds. -/
structure PInv (o : Nat) (w0 W : World) (a : List Pk × Bool) : Prop where
  below : Below o w0 W
  out : ∃ v, Boxed W o 30 v ∧ W.ownsRow (o + 7) 59 3 v a.1.length (a.1.flatMap pkC)
  deep : Boxed W (o + 1) 4 (.bool a.2)
  size : o + 5 ≤ W.heap.size
/-- The pick under way: in a block of its own. -/
structure PMid (p : Nat) (W W2 : World) (n a : Ys) (d : Bool) : Prop where
  block : W2.heap[p]? = some (.cells #[.string ⟨n.toArray⟩, .string ⟨a.toArray⟩, .bool d] 59 (0, 0))
  old : ∀ k, k < W.heap.size → k ≠ p → W2.heap[k]? = W.heap[k]?
  os : W2.os = W.os
  tape : W2.tape = W.tape
  output : W2.output = W.output
  size : W.heap.size < W2.heap.size
theorem PMid.c0 {p : Nat} {W W2 : World} {n a : Ys} {d : Bool} (h : PMid p W W2 n a d) : W2.cell? ⟨p, 0, none⟩ = some (.string ⟨n.toArray⟩) := by simp [World.cell?, h.block]
theorem PMid.c1 {p : Nat} {W W2 : World} {n a : Ys} {d : Bool} (h : PMid p W W2 n a d) : W2.cell? ⟨p, 1, none⟩ = some (.string ⟨a.toArray⟩) := by simp [World.cell?, h.block]
theorem PMid.c2 {p : Nat} {W W2 : World} {n a : Ys} {d : Bool} (h : PMid p W W2 n a d) : W2.cell? ⟨p, 2, none⟩ = some (.bool d) := by simp [World.cell?, h.block]
theorem PMid.fr {p : Nat} {W W2 : World} {n a : Ys} {d : Bool} (h : PMid p W W2 n a d) (i : Nat) : W2.frozen? ⟨p, i, none⟩ = false := by simp [World.frozen?, h.block]
theorem PMid.boxed {p : Nat} {W W2 : World} {n a : Ys} {d : Bool} (h : PMid p W W2 n a d) {B : Nat} {t : TypeId} {v : Value} (hb : Boxed W B t v) (hp : p = W.heap.size) : Boxed W2 B t v :=
  (h.old B hb.lt (by have := hb.lt; omega)).trans hb
theorem PMid.new (W : World) (d : Bool) (k : Nat) : PMid W.heap.size W (World.drewN (W.alloc (.cells #[.string ⟨#[]⟩, .string ⟨#[]⟩, .bool d] 59)) k) [] [] d :=
  ⟨World.alloc_heap_new W _, fun k hk _ => heap_alloc_was W _ k hk, rfl, rfl, rfl, by show _ < (W.alloc _).heap.size; simp⟩
theorem PMid.name {p : Nat} {W W2 : World} {n a : Ys} {d : Bool} (h : PMid p W W2 n a d) (n' : Ys) : PMid p W (W2.setCell ⟨p, 0, none⟩ (.string ⟨n'.toArray⟩)) n' a d :=
  ⟨heap_setCell_same W2 p 0 _ _ _ h.block, fun k hk hn => (Below.heap_setCell W2 _ _ k hn).trans (h.old k hk hn), h.os, h.tape, h.output, by simpa using h.size⟩
theorem PMid.attr {p : Nat} {W W2 : World} {n a : Ys} {d : Bool} (h : PMid p W W2 n a d) (a' : Ys) : PMid p W (W2.setCell ⟨p, 1, none⟩ (.string ⟨a'.toArray⟩)) n a' d :=
  ⟨heap_setCell_same W2 p 1 _ _ _ h.block, fun k hk hn => (Below.heap_setCell W2 _ _ k hn).trans (h.old k hk hn), h.os, h.tape, h.output, by simpa using h.size⟩
theorem infoPick : (Tryd.prog.info? 59).map (fun i => (i.zero, i.size, i.bytes)) = some (some (.agg #[.string ⟨#[]⟩, .string ⟨#[]⟩, .bool false]), 3, 40) := by kernel_rfl
theorem PMid.row {p o : Nat} {W W2 : World} {n a : Ys} {d : Bool} (h : PMid p W W2 n a d) (hp : W.heap.size = p) {v : Value} {k : Nat} {xs : List Value} (hr : W.ownsRow o 59 3 v k xs) : W2.ownsRow o 59 3 v k xs :=
  hr.kept (w' := W2) (row := none) ⟨h.os, h.tape, h.output, Nat.le_of_lt h.size, fun k hk _ => h.old k hk (by omega)⟩ (by
    cases hv : v.ownBlock with
    | none => exact .inl rfl
    | some b => exact .inr (by simp))
theorem pk_cells {W : World} {q : Pk} {ad : Addr} (h : ad = ⟨W.heap.size, 0, none⟩) : ∀ (j : Nat) (u : Value), (pkC q)[j]? = some u → (W.alloc (.cells #[.string ⟨q.1.toArray⟩, .string ⟨q.2.1.toArray⟩, .bool q.2.2] 59)).cell? (ad.add j) = some u := by
  intro j u hu
  subst h
  have hb : (W.alloc (.cells #[.string ⟨q.1.toArray⟩, .string ⟨q.2.1.toArray⟩, .bool q.2.2] 59)).heap[W.heap.size]? = some (.cells #[.string ⟨q.1.toArray⟩, .string ⟨q.2.1.toArray⟩, .bool q.2.2] 59 (0, 0)) := World.alloc_heap_new W _
  match j, hu with
  | 0, hu => cases hu; show (W.alloc _).cell? ⟨W.heap.size, 0 + 0, none⟩ = _; simp only [World.cell?, hb]; rfl
  | 1, hu => cases hu; show (W.alloc _).cell? ⟨W.heap.size, 0 + 1, none⟩ = _; simp only [World.cell?, hb]; rfl
  | 2, hu => cases hu; show (W.alloc _).cell? ⟨W.heap.size, 0 + 2, none⟩ = _; simp only [World.cell?, hb]; rfl
  | j + 3, hu => simp [pkC] at hu
theorem pk_one (q : Pk) : ∀ u ∈ pkC q, u.oneCell' = true := by
  intro u hu
  simp only [pkC, List.mem_cons, List.not_mem_nil, or_false] at hu
  rcases hu with rfl | rfl | rfl <;> rfl
theorem pp_keep {o p : Nat} {W W3 w1 : World} {n a : Ys} {d : Bool} (q : PMid p W W3 n a d) (hp : W.heap.size = p) (hsz : o + 7 ≤ W.heap.size) {v : Value} {k' : Nat} {xs : List Value} (hrow : W.ownsRow (o + 7) 59 3 v k' xs) {tmp : Obj}
    (hg : (W3.alloc tmp).grownBy w1 v.ownBlock) : ∀ k, k < o + 7 → w1.heap[k]? = W.heap[k]? := fun k hk => by
  have hs := q.size
  rw [hg.block k (by simp; omega) (fun e => by have := (hrow.lt k e.symm).1; omega), heap_alloc_was _ _ _ (by omega), q.old k (by omega) (by omega)]
theorem SBox.same {bp bs bz : Nat} {W W' : World} {r : Ys} (h : SBox bp bs bz W r) (h1 : W'.heap[bp]? = W.heap[bp]?) (h2 : W'.heap[bs]? = W.heap[bs]?) (h3 : W'.heap[bz]? = W.heap[bz]?) : SBox bp bs bz W' r :=
  ⟨(World.cell?_of_block (w := W) (w' := W') (a := ⟨bp, 0, none⟩) h1).trans h.1, (World.cell?_of_block (w := W) (w' := W') (a := ⟨bs, 0, none⟩) h2).trans h.2.1, (World.cell?_of_block (w := W) (w' := W') (a := ⟨bz, 0, none⟩) h3).trans h.2.2.1, (World.frozen?_of_block (w := W) (w' := W') (a := ⟨bs, 0, none⟩) h2).trans h.2.2.2⟩
theorem pp_set {o : Nat} {w W : World} {acc : List Pk} {d d' : Bool} (h : PInv o w W (acc, d)) {r : Ys} (hB : SBox (o + 1 + 1 + 1) (o + 1 + 1) (o + 1 + 1 + 2) W r) :
    PInv o w (W.setCell ⟨o + 1, 0, none⟩ (.bool d')) (acc, d') ∧ SBox (o + 1 + 1 + 1) (o + 1 + 1) (o + 1 + 1 + 2) (W.setCell ⟨o + 1, 0, none⟩ (.bool d')) r ∧
      (W.setCell ⟨o + 1, 0, none⟩ (.bool d')).heap[o + 5]? = W.heap[o + 5]? ∧ (W.setCell ⟨o + 1, 0, none⟩ (.bool d')).heap[o + 5 + 1]? = W.heap[o + 5 + 1]? := by
  have hk : ∀ k, k ≠ o + 1 → (W.setCell ⟨o + 1, 0, none⟩ (.bool d')).heap[k]? = W.heap[k]? := fun k hk => Below.heap_setCell W _ _ k hk
  obtain ⟨hbel, ⟨v, hv, hrow⟩, hd, hsz⟩ := h
  refine ⟨⟨hbel.setCell (p := ⟨o + 1, 0, none⟩) (by show o ≤ o + 1; omega) _, ⟨v, (hk o (by omega)).trans hv, hrow.kept (grownBy_setCell' W (o + 1) _) ?_⟩, hd.set _, by simpa using hsz⟩, hB.same (hk _ (by omega)) (hk _ (by omega)) (hk _ (by omega)), hk _ (by omega), hk _ (by omega)⟩
  cases hvb : v.ownBlock with
  | none => exact .inl rfl
  | some b => exact .inr (fun e => by cases e; have := (hrow.lt _ hvb).1; omega)
theorem pp_close {o p : Nat} {w W W3 w1 : World} {n a : Ys} {d0 d : Bool} (q : PMid p W W3 n a d0) (hp : W.heap.size = p) (hsz : o + 7 ≤ W.heap.size) {v v' : Value} {acc : List Pk} (hrow : W.ownsRow (o + 7) 59 3 v acc.length (acc.flatMap pkC)) {tmp : Obj}
    (hg : (W3.alloc tmp).grownBy w1 v.ownBlock) (hv : Boxed W o 30 v) (hd : Boxed W (o + 1) 4 (.bool d)) (hbel : Below o w W) {pk : Pk} (hown : w1.ownsRow (o + 7) 59 3 v' (acc.length + 1) (acc.flatMap pkC ++ pkC pk)) {r : Ys} (hB : SBox (o + 1 + 1 + 1) (o + 1 + 1) (o + 1 + 1 + 2) W r) :
    PInv o w ((w1.setCell ⟨o, 0, none⟩ v').setCell ⟨o + 1, 0, none⟩ (.bool true)) (acc ++ [pk], true) ∧ SBox (o + 1 + 1 + 1) (o + 1 + 1) (o + 1 + 1 + 2) ((w1.setCell ⟨o, 0, none⟩ v').setCell ⟨o + 1, 0, none⟩ (.bool true)) r ∧
      ((w1.setCell ⟨o, 0, none⟩ v').setCell ⟨o + 1, 0, none⟩ (.bool true)).heap[o + 5]? = W.heap[o + 5]? ∧ ((w1.setCell ⟨o, 0, none⟩ v').setCell ⟨o + 1, 0, none⟩ (.bool true)).heap[o + 5 + 1]? = W.heap[o + 5 + 1]? := by
  have hk := pp_keep q hp hsz hrow hg
  have hk2 : ∀ k, k < o + 7 → k ≠ o → (w1.setCell ⟨o, 0, none⟩ v').heap[k]? = W.heap[k]? := fun k h1 h2 => (Below.heap_setCell w1 _ _ k h2).trans (hk k h1)
  have hs := q.size
  have hsz1 := hg.size
  rw [World.size_alloc] at hsz1
  have hP : PInv o w (w1.setCell ⟨o, 0, none⟩ v') (acc ++ [pk], d) := by
    refine ⟨⟨?_, ?_, ?_, ?_, ?_⟩, ⟨v', (show Boxed w1 o 30 v from (hk o (by omega)).trans hv).set v', ?_⟩, (hk2 (o + 1) (by omega) (by omega)).trans hd, ?_⟩
    · exact hg.os.trans (q.os.trans hbel.os)
    · exact hg.tape.trans (q.tape.trans hbel.tape)
    · exact hg.output.trans (q.output.trans hbel.output)
    · have := hbel.size
      simp only [World.size_setCell]
      omega
    · intro k hlt
      exact (hk2 k (by omega) (by omega)).trans (hbel.block k hlt)
    · have h1 := hown.kept (grownBy_setCell' w1 o v') (by
        cases hvb : v'.ownBlock with
        | none => exact .inl rfl
        | some b => exact .inr (fun e => by cases e; have := (hown.lt _ hvb).1; omega))
      simpa using h1
    · simp only [World.size_setCell]
      omega
  obtain ⟨g1, g2, g3, g4⟩ := pp_set (d' := true) hP (hB.same (hk2 _ (by omega) (by omega)) (hk2 _ (by omega) (by omega)) (hk2 _ (by omega) (by omega)))
  exact ⟨g1, g2, g3.trans (hk2 _ (by omega) (by omega)), g4.trans (hk2 _ (by omega) (by omega))⟩
def aP (o : Nat) (s : Ys) (x : Value) : Act := { tmps := #[.string ⟨s.toArray⟩, undef, .slice none 0 0, .int .i64 0, .pointer (some ⟨o, 0, none⟩), .pointer (some ⟨o + 1, 0, none⟩), x, undef, undef, undef, undef, .string ⟨s.toArray⟩, .int .i64 (s.length : Nat), .bool false, .string ⟨s.toArray⟩, .func (.func 82) #[] #[.pointer (some ⟨o + 1 + 1 + 1, 0, none⟩), .pointer (some ⟨o + 1 + 1, 0, none⟩), .pointer (some ⟨o + 1 + 1 + 2, 0, none⟩)], x, undef, undef, undef, undef, undef, undef, undef, undef, undef, undef, undef, undef, undef, undef, undef, undef, undef, undef, undef, undef, undef, undef, undef, undef, undef, undef, undef, undef, undef, undef, undef, undef, undef, undef, undef, undef], defers := [] }

/-! ### Words -/
theorem ib_none : ∀ {s : Ys}, Lib.indexByte s 91 = -1 → 91 ∉ s ∧ s.takeWhile (· ≠ 91) = s
  | [], _ => ⟨by simp, rfl⟩
  | c :: r, h => by
    unfold Lib.indexByte at h
    by_cases hc : (c == 91) = true
    · rw [if_pos hc] at h; cases h
    · rw [if_neg hc] at h
      have hc' : c ≠ 91 := by simpa using hc
      by_cases hr : (Lib.indexByte r 91 == -1) = true
      · obtain ⟨h1, h2⟩ := ib_none (s := r) (by simpa using hr)
        exact ⟨fun e => by
          rcases List.mem_cons.1 e with e | e
          · exact hc' e.symm
          · exact h1 e, by rw [List.takeWhile_cons, if_pos (by simpa using hc'), h2]⟩
      · rw [if_neg hr] at h
        have h1 := Lib.indexByte_ge r 91
        have h2 : Lib.indexByte r 91 ≠ -1 := by simpa using hr
        omega
theorem ib_some : ∀ {s : Ys} {o : Nat}, Lib.indexByte s 91 = o → 91 ∈ s ∧ s.takeWhile (· ≠ 91) = s.take o ∧ s.dropWhile (· ≠ 91) = s.drop o
  | [], o, h => by unfold Lib.indexByte at h; omega
  | c :: r, o, h => by
    unfold Lib.indexByte at h
    by_cases hc : (c == 91) = true
    · rw [if_pos hc] at h
      obtain rfl : o = 0 := by omega
      have hc' : c = 91 := by simpa using hc
      subst hc'
      exact ⟨by simp, by simp [List.takeWhile], by simp [List.dropWhile]⟩
    · rw [if_neg hc] at h
      have hc' : c ≠ 91 := by simpa using hc
      by_cases hr : (Lib.indexByte r 91 == -1) = true
      · rw [if_pos hr] at h; omega
      · rw [if_neg hr] at h
        obtain ⟨o', rfl⟩ : ∃ o', o = o' + 1 := ⟨o - 1, by
          have h1 := Lib.indexByte_ge r 91
          have h2 : Lib.indexByte r 91 ≠ -1 := by simpa using hr
          omega⟩
        obtain ⟨h1, h2, h3⟩ := ib_some (s := r) (o := o') (by omega)
        refine ⟨List.mem_cons_of_mem _ h1, ?_, ?_⟩
        · rw [List.takeWhile_cons, if_pos (by simpa using hc'), h2]; rfl
        · rw [List.dropWhile_cons, if_pos (by simpa using hc'), h3]; rfl
theorem trim_last (a : Ys) : Lib.trimSuffix a [93] = if a.getLast? = some 93 then a.dropLast else a := by
  unfold Lib.trimSuffix Lib.hasSuffix
  by_cases h : a.getLast? = some 93
  · obtain ⟨t, rfl⟩ : ∃ t, a = t ++ [93] := by
      obtain ⟨t, ht⟩ := List.getLast?_eq_some_iff.1 h
      exact ⟨t, ht⟩
    rw [if_pos h, if_pos (List.isSuffixOf_iff_suffix.2 ⟨t, rfl⟩)]
    simp
  · rw [if_neg h, if_neg]
    intro e
    obtain ⟨t, rfl⟩ := List.isSuffixOf_iff_suffix.1 e
    exact h (by simp)
theorem cut_word {x n a : Ys} {b : Bool} (h : Lib.cut x [91] = (n, a, b)) : nameW x = (if n = [42] then [] else n) ∧ attrW x = if b = true then Lib.trimSuffix a [93] else [] := by
  unfold Lib.cut at h
  rw [Lib.index_one] at h
  by_cases hi : 0 ≤ Lib.indexByte x 91
  · obtain ⟨o, ho⟩ : ∃ o : Nat, Lib.indexByte x 91 = o := ⟨(Lib.indexByte x 91).toNat, by omega⟩
    obtain ⟨h1, h2, h3⟩ := ib_some ho
    rw [if_pos hi, ho] at h
    simp only [Prod.mk.injEq] at h
    obtain ⟨rfl, rfl, rfl⟩ := h
    unfold nameW attrW
    rw [h2, if_pos h1, if_pos rfl, h3, trim_last]
    simp
  · obtain ⟨h1, h2⟩ := ib_none (s := x) (by have := Lib.indexByte_ge x 91; omega)
    rw [if_neg hi] at h
    simp only [Prod.mk.injEq] at h
    obtain ⟨rfl, rfl, rfl⟩ := h
    unfold nameW attrW
    rw [h2, if_neg h1]
    simp
theorem split_len : ∀ s : Ys, (splitW s).length ≤ s.length + 1 ∧ ∀ x ∈ splitW s, x.length ≤ s.length
  | [] => ⟨by simp [splitW], by simp [splitW]⟩
  | c :: r => by
    obtain ⟨h1, h2⟩ := split_len r
    rw [splitW]
    by_cases hc : c = 32
    · rw [if_pos hc]
      refine ⟨by simp; omega, fun x hx => ?_⟩
      rcases List.mem_cons.1 hx with rfl | hx
      · simp
      · have := h2 x hx; simp; omega
    · rw [if_neg hc]
      cases hr : splitW r with
      | nil => exact ⟨by simp, fun x hx => by simp at hx; subst hx; simp⟩
      | cons y ys =>
        rw [hr] at h1 h2
        refine ⟨by simp at h1 ⊢; omega, fun x hx => ?_⟩
        rcases List.mem_cons.1 hx with rfl | hx
        · have := h2 y (by simp); simp; omega
        · have := h2 x (by simp [hx]); simp; omega
theorem fold_len : ∀ (ws : List Ys) (a : List Pk × Bool), (ws.foldl stepW a).1.length ≤ a.1.length + ws.length
  | [], a => by simp
  | w :: ws, a => by
    rw [List.foldl_cons]
    have := fold_len ws (stepW a w)
    have h2 : (stepW a w).1.length ≤ a.1.length + 1 := by
      unfold stepW
      split
      · simp
      · simp
    simp
    omega
theorem flat_get : ∀ (l : List Pk) (i j : Nat) (q : Pk), l[i]? = some q → j < 3 → (l.flatMap pkC)[i * 3 + j]? = (pkC q)[j]?
  | [], i, j, q, h, _ => by simp at h
  | a :: l, 0, j, q, h, hj => by
    cases h
    rw [List.flatMap_cons, List.getElem?_append_left (by simp [pkC]; omega)]
    simp
  | a :: l, i + 1, j, q, h, hj => by
    rw [List.flatMap_cons, List.getElem?_append_right (by simp [pkC]; omega), ← flat_get l i j q (by simpa using h) hj]
    congr 1
    simp [pkC]
    omega
theorem pr_intW {w : World} {I : Nat → Prop} {v : Value} {k : IntKind} {n : Int} (h : Pr w I v (.int k n)) : v = .int k n := by
  generalize hx : V.int k n = x at h
  cases h with
  | int k' n' => cases hx; rfl
  | _ => cases hx
theorem pr_out {W : World} {base : Nat} {v : Value} {l : List Pk} (h : W.ownsRow base 59 3 v l.length (l.flatMap pkC)) (hl : ∀ q ∈ l, q.1.length ≤ maxLen ∧ q.2.1.length ≤ maxLen) : Pr W (fun b => v.ownBlock = some b) v (.lst (l.map pickA)) := by
  rcases id h.2 with ⟨rfl, h0⟩ | ⟨g, cap, cur, rfl, hg, hb, h1, h2, h3, h4⟩
  · obtain rfl : l = [] := List.length_eq_zero_iff.1 h0
    exact .lnil none 0
  · have hc : ∀ (j : Nat), j < l.length * 3 → W.cell? ⟨g, j, none⟩ = (l.flatMap pkC)[j]? := fun j hj => h.cellAt j hj
    have := Pr.lst (w := W) (I := fun b => (Value.slice (some ⟨g, 0, none⟩) l.length cap).ownBlock = some b) g 0 cap 3 (l.map pickA) (fun i j => match l[i]? with | some q => (pkC q).getD j (.bool false) | none => .bool false)
      rfl (by simpa using h1) h2 (fun i x hx => ?_) (fun i j hi hj => ?_) (fun i j => ?_) (fun i x j c hx hxc => ?_)
    · simpa using this
    · obtain ⟨q, _, rfl⟩ := List.mem_map.1 (List.mem_of_getElem? hx); rfl
    · rw [List.length_map] at hi
      have hq : l[i]? = some l[i] := List.getElem?_eq_getElem hi
      rw [hq]
      show W.cell? ⟨g, 0 + i * 3 + j, none⟩ = some ((pkC l[i]).getD j (.bool false))
      rw [Nat.zero_add, hc _ (by omega), flat_get l i j l[i] hq hj]
      match j, hj with
      | 0, _ => rfl
      | 1, _ => rfl
      | 2, _ => rfl
    · cases hq : l[i]? with
      | none => rfl
      | some q =>
        show ((pkC q).getD j (.bool false)).oneCell' = true
        match j with
        | 0 => rfl
        | 1 => rfl
        | 2 => rfl
        | j + 3 => simp [pkC]; rfl
    · rw [List.getElem?_map] at hx
      cases hq : l[i]? with
      | none => rw [hq] at hx; cases hx
      | some q =>
        rw [hq] at hx
        cases hx
        obtain ⟨hq1, hq2⟩ := hl q (List.mem_of_getElem? hq)
        show Pr W _ ((pkC q).getD j (.bool false)) c
        match j, hxc with
        | 0, hxc => cases hxc; exact pr_str_mk hq1
        | 1, hxc => cases hxc; exact pr_str_mk hq2
        | 2, hxc => cases hxc; exact .bool _
        | j + 3, hxc => simp [pickA, pickC, V.cells] at hxc
theorem boxed_at {W : World} {k : Nat} {t : TypeId} {v : Value} (h : k = W.heap.size) : Boxed (W.alloc (.cells #[v] t)) k t v := by
  subst h; exact Boxed.new W t v
end Go.Proofs.YtkkcmobnhiiacaaDoor

/-! pick.Parse, the program's: walked. No conditions. -/
namespace Go.Proofs.YtkkcmobnhiiacaaDoor
open Go.RowKit Go.Shelf
attribute [local go_sem] Oper.semAt_some

theorem nameW_len (w : Ys) : (nameW w).length ≤ w.length := by
  unfold nameW
  simp only
  split
  · simp
  · exact (List.takeWhile_sublist _).length_le
theorem attrW_len (w : Ys) : (attrW w).length ≤ w.length := by
  have h : ((w.dropWhile (· ≠ 91)).drop 1).length ≤ w.length := by
    have := (List.dropWhile_sublist (l := w) (· ≠ 91)).length_le
    rw [List.length_drop]
    omega
  unfold attrW
  split
  · simp only
    split
    · rw [List.length_dropLast]; omega
    · exact h
  · simp
theorem wordsP_len {m : Nat} : ∀ (ws : List Ys) (d : Bool), (∀ x ∈ ws, x.length ≤ m) → ∀ q ∈ wordsP d ws, q.1.length ≤ m ∧ q.2.1.length ≤ m
  | [], d, _, q, hq => by simp [wordsP] at hq
  | w :: ws, d, h, q, hq => by
    rw [wordsP] at hq
    have hw := h w (by simp)
    have h' : ∀ x ∈ ws, x.length ≤ m := fun x hx => h x (by simp [hx])
    split at hq
    · exact wordsP_len ws false h' q hq
    · rcases List.mem_cons.1 hq with rfl | hq
      · exact ⟨Nat.le_trans (nameW_len w) hw, Nat.le_trans (attrW_len w) hw⟩
      · exact wordsP_len ws true h' q hq
theorem pp_kept {o : Nat} {w W w3 : World} (ho : w.heap.size = o) (hbel : Below o w W) (hsz : o + 5 ≤ W.heap.size) (hk : Kept (fun _ => False) W w3) : Kept (fun _ => False) w (w3.putObj (o + 5) (.deferred none)) := by
  refine kept_below ⟨hk.os.trans hbel.os, hk.tape.trans hbel.tape, hk.output.trans hbel.output, by have := hbel.size; have := hk.size; simp; omega, fun k hlt => ?_⟩
  rw [World.putObj_heap_other (by omega), hk.block k (by omega) (fun h => h), hbel.block k (by omega)]
theorem pp_fail {o : Nat} {w W w3 : World} (c : Int) (ho : w.heap.size = o) (hbel : Below o w W) (hsz : o + 5 ≤ W.heap.size) (hk : Kept (fun _ => False) W w3) {x : Except Int (List Pk)} (hx : x = .error c) :
    ∃ v r I', Ending.returned (.tuple #[.slice none 0 0, .int .i64 c]) = .returned v ∧ r = ppV x ∧ Pr (w3.putObj (o + 5) (.deferred none)) I' v r ∧ (∀ b, I' b → b < (w3.putObj (o + 5) (.deferred none)).heap.size ∧ w.heap.size ≤ b) ∧ Kept (fun _ => False) w (w3.putObj (o + 5) (.deferred none)) := by
  subst hx
  refine ⟨_, _, fun _ => False, rfl, rfl, Pr.tup [.slice none 0 0, .int .i64 c] _ rfl fun i u y h1 h2 => ?_, fun b h => h.elim, pp_kept ho hbel hsz hk⟩
  match i, h1, h2 with
  | 0, h1, h2 => cases h1; cases h2; exact .lnil none 0
  | 1, h1, h2 => cases h1; cases h2; exact .int _ _
  | i + 2, h1, _ => simp at h1
theorem pp_good {o : Nat} {w W w3 : World} (ho : w.heap.size = o) (hbel : Below o w W) (hsz : o + 5 ≤ W.heap.size) (hk : Kept (fun _ => False) W w3) {x : Except Int (List Pk)} {ws : List Pk} (hx : x = .ok ws) {v : Value}
    (hpo : Pr W (fun b => v.ownBlock = some b) v (.lst (ws.map pickA))) (h1 : ∀ b, v.ownBlock = some b → b < W.heap.size) (h2 : ∀ b, v.ownBlock = some b → o + 7 ≤ b) :
    ∃ v' r I', Ending.returned (.tuple #[v, .int .i64 0]) = .returned v' ∧ r = ppV x ∧ Pr (w3.putObj (o + 5) (.deferred none)) I' v' r ∧ (∀ b, I' b → b < (w3.putObj (o + 5) (.deferred none)).heap.size ∧ w.heap.size ≤ b) ∧ Kept (fun _ => False) w (w3.putObj (o + 5) (.deferred none)) := by
  subst hx
  have hs := hk.size
  have hpo2 := hpo.later (w' := w3.putObj (o + 5) (.deferred none)) (I' := fun b => v.ownBlock = some b) (fun b hb => by
    rw [World.putObj_heap_other (by have := h2 b hb; omega), hk.block b (h1 b hb) (fun h => h)]) (fun b hb => hb)
  refine ⟨_, _, fun b => v.ownBlock = some b, rfl, rfl, Pr.tup [v, .int .i64 0] _ rfl fun i u y g1 g2 => ?_, fun b h => ⟨by have := h1 b h; simp; omega, by have := h2 b h; omega⟩, pp_kept ho hbel hsz hk⟩
  match i, g1, g2 with
  | 0, g1, g2 => cases g1; cases g2; exact hpo2
  | 1, g1, g2 => cases g1; cases g2; exact .int _ _
  | i + 2, g1, _ => simp at g1
theorem pp_other {o : Nat} {w W : World} {a : List Pk × Bool} {v : Value} (h : PInv o w W a) : PInv o w (W.setCell ⟨o + 1 + 1, 0, none⟩ v) a := by
  have hk : ∀ k, k ≠ o + 1 + 1 → (W.setCell ⟨o + 1 + 1, 0, none⟩ v).heap[k]? = W.heap[k]? := fun k hk => Below.heap_setCell W _ _ k hk
  obtain ⟨hbel, ⟨u, hv, hrow⟩, hd, hsz⟩ := h
  refine ⟨hbel.setCell (p := ⟨o + 1 + 1, 0, none⟩) (by show o ≤ o + 1 + 1; omega) _, ⟨u, (hk o (by omega)).trans hv, hrow.kept (grownBy_setCell' W (o + 1 + 1) _) ?_⟩, (hk _ (by omega)).trans hd, by simpa using hsz⟩
  cases hvb : u.ownBlock with
  | none => exact .inl rfl
  | some b => exact .inr (fun e => by cases e; have := (hrow.lt _ hvb).1; omega)
theorem pp_put {o : Nat} {w W : World} {a : List Pk × Bool} {ob : Obj} (h : PInv o w W a) : PInv o w (W.putObj (o + 5 + 1) ob) a := by
  have hk : ∀ k, k ≠ o + 5 + 1 → (W.putObj (o + 5 + 1) ob).heap[k]? = W.heap[k]? := fun k hk => World.putObj_heap_other hk
  obtain ⟨hbel, ⟨u, hv, hrow⟩, hd, hsz⟩ := h
  refine ⟨⟨hbel.os, hbel.tape, hbel.output, by simpa using hbel.size, fun k hlt => (hk k (by omega)).trans (hbel.block k hlt)⟩, ⟨u, (hk o (by omega)).trans hv, hrow.kept (grownBy_putObj' W (o + 5 + 1) ob) ?_⟩, (hk _ (by omega)).trans hd, by simpa using hsz⟩
  cases hvb : u.ownBlock with
  | none => exact .inl rfl
  | some b => exact .inr (fun e => by cases e; have := (hrow.lt _ hvb).1; omega)
theorem pp_alloc {o : Nat} {w W : World} {a : List Pk × Bool} {ob : Obj} (h : PInv o w W a) : PInv o w (W.alloc ob) a := by
  obtain ⟨hbel, ⟨u, hv, hrow⟩, hd, hsz⟩ := h
  exact ⟨hbel.alloc (by omega) _, ⟨u, hv.alloc _, hrow.alloc _⟩, hd.alloc _, by simp; omega⟩
set_option maxRecDepth 100000 in
set_option maxHeartbeats 4000000 in
theorem pick_walk (s : Ys) (hs : s.length ≤ 600) (w : World) (m : Int) (hm : w.cell? ⟨renCut.g 1, 0, none⟩ = some (.int .i64 m)) : Calls Tryd.prog 10 #[.string ⟨s.toArray⟩] w fun e w' => ∃ v r I', e = .returned v ∧ r = ppV (ppProg s) ∧ Pr w' I' v r ∧ (∀ b, I' b → b < w'.heap.size ∧ w.heap.size ≤ b) ∧ Kept (fun _ => False) w w' := by
  refine (callsIn_wide (n := 5)).1 ?_
  refine callsIn_of_wp_marks Tryd.func10 rfl trivial ?_
  simp only [Tryd.ntmps10, List.size_toArray, List.length_cons, List.length_nil, Nat.reduceAdd, Nat.reduceSub, Array.replicate_succ, Array.replicate_zero, List.push_toArray, List.append_toArray, List.nil_append, List.cons_append]
  have h6 : ¬ (600 < (s.length : Int)) := by omega
  have hgl : renCut.g 1 < w.heap.size := by
    refine Decidable.byContradiction fun h => ?_
    simp only [World.cell?, Array.getElem?_eq_none (Nat.le_of_not_lt h)] at hm
    cases hm
  gi_wp2_with (refine ⟨trivial, ?_⟩; gi_at_call 23; refine (callsIn_wide.2 (seq_make s _)).mono ?_; rintro e w' ⟨rfl, rfl⟩)
  obtain ⟨W0, hW0⟩ : ∃ W0, World.alloc (World.alloc (World.alloc (World.alloc (World.alloc w (.cells #[.slice none 0 0] 30)) (.cells #[.bool true] 4)) (.cells #[.string ⟨s.toArray⟩] 9)) (.cells #[.string ⟨#[32]⟩] 9)) (.cells #[.int .i64 0] 3) = W0 := ⟨_, rfl⟩
  obtain ⟨o, ho⟩ : ∃ o, w.heap.size = o := ⟨_, rfl⟩
  have hsz : W0.heap.size = o + 5 := by rw [← hW0, ← ho]; simp
  have hP0 : PInv o w W0 ([], true) := by
    rw [← hW0]
    refine ⟨?_, ⟨.slice none 0 0, ?_, World.ownsRow_nil _ _ _ _⟩, ?_, by simp; omega⟩
    · have h0 := Below.refl o w
      exact ((((h0.alloc (by omega) _).alloc (by simp; omega) _).alloc (by simp; omega) _).alloc (by simp; omega) _).alloc (by simp; omega) _
    · exact ((((boxed_at ho.symm).alloc _).alloc _).alloc _).alloc _
    · exact (((boxed_at (by simp [ho])).alloc _).alloc _).alloc _
  have hB0 : SBox (o + 1 + 1 + 1) (o + 1 + 1) (o + 1 + 1 + 2) W0 s := by
    rw [← hW0]
    have s1 := ((boxed_at (W := ((w.alloc (.cells #[.slice none 0 0] 30)).alloc (.cells #[.bool true] 4))) (k := o + 1 + 1) (t := 9) (v := .string ⟨s.toArray⟩) (by simp [ho])).alloc (.cells #[.string ⟨#[32]⟩] 9)).alloc (.cells #[.int .i64 0] 3)
    have s2 := (boxed_at (W := ((w.alloc (.cells #[.slice none 0 0] 30)).alloc (.cells #[.bool true] 4)).alloc (.cells #[.string ⟨s.toArray⟩] 9)) (k := o + 1 + 1 + 1) (t := 9) (v := .string ⟨#[32]⟩) (by simp [ho])).alloc (.cells #[.int .i64 0] 3)
    have s3 := (boxed_at (W := (((w.alloc (.cells #[.slice none 0 0] 30)).alloc (.cells #[.bool true] 4)).alloc (.cells #[.string ⟨s.toArray⟩] 9)).alloc (.cells #[.string ⟨#[32]⟩] 9)) (k := o + 1 + 1 + 2) (t := 3) (v := .int .i64 0) (by simp [ho]))
    exact ⟨s2.cell, s1.cell, s3.cell, s1.frozen⟩
  rw [hW0, ho]
  refine range_split (by omega) (by omega) (by omega) (by omega) (by omega) rfl s (by omega) hB0 (fun pre W => PInv o w W (pre.foldl stepW ([], true))) ?_ ?_ ?_ (fun x => aP o s (.string ⟨x.toArray⟩)) ?assign ?body ?done
  · intro pre W v hP
    exact pp_other hP
  · intro pre W ob hP
    rw [hsz]
    exact pp_put hP
  · intro o1 o2
    exact pp_alloc (pp_alloc hP0)
  case assign =>
    intro l x W K hK
    unfold aP at hK
    gi_wp2
    exact hK
  case body =>
    intro l pre x r W hP hB hx hl
    rw [hsz] at hl
    obtain ⟨⟨acc, d⟩, hf⟩ : ∃ a, pre.foldl stepW ([], true) = a := ⟨_, rfl⟩
    rw [hf] at hP
    rw [List.foldl_append, List.foldl_cons, List.foldl_nil, hf]
    obtain ⟨hsl1, hsl2⟩ := split_len s
    obtain ⟨tl, htl⟩ := hx
    have hxl : x.length ≤ 600 := by have := hsl2 x (by rw [← htl]; simp); omega
    have hal : acc.length ≤ 600 := by
      have h1 := fold_len pre ([], true)
      rw [hf] at h1
      have h2 := congrArg List.length htl
      simp at h1 h2
      omega
    obtain ⟨hbel, ⟨v, hv, hrow⟩, hd, hsz2⟩ := hP
    have hgm : W.cell? ⟨renCut.g 1, 0, none⟩ = some (.int .i64 m) := (hbel.cell (p := ⟨renCut.g 1, 0, none⟩) (by rw [← ho]; exact hgl)).trans hm
    have hvc := hv.cell
    have hvf := hv.frozen
    have hdc := hd.cell
    have hdf := hd.frozen
    unfold aP
    unfold stepW
    by_cases he : x = [62]
    · subst he
      rw [if_pos rfl]
      gi_wp2
      exact pp_set ⟨hbel, ⟨v, hv, hrow⟩, hd, hsz2⟩ hB
    · rw [if_neg he]
      have he2 : (x == [62]) = false := by simpa using he
      obtain ⟨n, a, b, hcut⟩ : ∃ n a b, Lib.cut x [91] = (n, a, b) := ⟨_, _, _, rfl⟩
      have hC := fun W' hW' => Any.strings_Cut laysCut ⟨x.toArray⟩ ⟨#[91]⟩ m W' (by simp [ByteArray.size]; omega) hW'
      simp only [hcut] at hC
      obtain ⟨p, hp⟩ : ∃ p, W.heap.size = p := ⟨_, rfl⟩
      obtain ⟨hw1, hw2⟩ := cut_word hcut
      have hal2 : a.length ≤ 600 := by have := (cut_len x [91]).2; rw [hcut] at this; simp only at this; omega
      have hS := fun W' => Any.strings_CutSuffix laysSuf ⟨a.toArray⟩ ⟨#[93]⟩ W' (by simp [ByteArray.size]; omega)
      gi_wp2
      refine ⟨trivial, ?_⟩
      gi_at_call 24
      refine (CallsIn.inRound l (callsIn_wide.2 (hC _ ((alloc_cell (by show renCut.g 1 < W.heap.size; omega)).trans hgm)))).mono ?_
      rintro e w' ⟨rfl, k, rfl⟩
      have hm0 := PMid.new W d k
      generalize World.drewN (World.alloc W (.cells #[.string ⟨#[]⟩, .string ⟨#[]⟩, .bool d] 59)) k = W2 at hm0 ⊢
      rw [hp] at hm0
      have k0 := hm0.c0
      have k1 := hm0.c1
      have k2 := hm0.c2
      have f0 := hm0.fr
      have b1 := (hm0.boxed hv hp.symm).cell
      have b2 := (hm0.boxed hv hp.symm).frozen
      have b3 := (hm0.boxed hd hp.symm).cell
      have b4 := (hm0.boxed hd hp.symm).frozen
      have hpo : p ≠ o := by omega
      have hpo1 : p ≠ o + 1 := by omega
      by_cases hn : n = [42]
      all_goals cases b
      · subst hn
        have q := (hm0.name [42]).name []
        have hr3 := q.row hp hrow
        obtain ⟨i0, hi, hz0, hz1, hz2⟩ := info_parts infoPick
        gi_wp2_with (gi_at_builtin; refine wpListIn_append_own _ rfl _ _ 30 rfl (o + 7) 59 i0 (.agg #[.string ⟨#[]⟩, .string ⟨#[]⟩, .bool false]) 3 40 Tryd.underlying30 hi hz0 hz1 hz2 rfl (by decide) _ _ _ rfl (hr3.alloc _) ⟨W2.heap.size, 0, none⟩ 1 1 (pkC ([], [], d)) rfl rfl (pk_cells (by simp)) (pk_one _) (by simp only [maxLen]; omega) (by omega) (by have := q.size; simp at this ⊢; omega) ?_; intro v' w1 hown' hgrow _; have hkk := pp_keep q hp hl hrow hgrow; have e1 : Boxed w1 o 30 v := (hkk o (by omega)).trans hv; have e2 : Boxed w1 (o + 1) 4 (.bool d) := (hkk (o + 1) (by omega)).trans hd; have e3 := e1.cell; have e4 := e1.frozen; have e5 := e2.cell; have e6 := e2.frozen; obtain ⟨bb, cc, rfl⟩ := ownsRow_succ hown')
        exact pp_close q hp hl hrow hgrow hv hd hbel hown' hB
      · subst hn
        have q := ((hm0.name [42]).name []).attr (Lib.trimSuffix a [93])
        have hr3 := q.row hp hrow
        obtain ⟨i0, hi, hz0, hz1, hz2⟩ := info_parts infoPick
        gi_wp2_with (first | (refine ⟨trivial, ?_⟩; gi_at_call 25; refine (CallsIn.inRound l (callsIn_wide.2 (hS _))).mono ?_; rintro e w' ⟨rfl, rfl⟩) | (gi_at_builtin; refine wpListIn_append_own _ rfl _ _ 30 rfl (o + 7) 59 i0 (.agg #[.string ⟨#[]⟩, .string ⟨#[]⟩, .bool false]) 3 40 Tryd.underlying30 hi hz0 hz1 hz2 rfl (by decide) _ _ _ rfl (hr3.alloc _) ⟨W2.heap.size, 0, none⟩ 1 1 (pkC ([], Lib.trimSuffix a [93], d)) rfl rfl (pk_cells (by simp)) (pk_one _) (by simp only [maxLen]; omega) (by omega) (by have := q.size; simp at this ⊢; omega) ?_; intro v' w1 hown' hgrow _; have hkk := pp_keep q hp hl hrow hgrow; have e1 : Boxed w1 o 30 v := (hkk o (by omega)).trans hv; have e2 : Boxed w1 (o + 1) 4 (.bool d) := (hkk (o + 1) (by omega)).trans hd; have e3 := e1.cell; have e4 := e1.frozen; have e5 := e2.cell; have e6 := e2.frozen; obtain ⟨bb, cc, rfl⟩ := ownsRow_succ hown'))
        exact pp_close q hp hl hrow hgrow hv hd hbel hown' hB
      · have hn2 : (n == [42]) = false := by simpa using hn
        have q := hm0.name n
        have hr3 := q.row hp hrow
        obtain ⟨i0, hi, hz0, hz1, hz2⟩ := info_parts infoPick
        gi_wp2_with (gi_at_builtin; refine wpListIn_append_own _ rfl _ _ 30 rfl (o + 7) 59 i0 (.agg #[.string ⟨#[]⟩, .string ⟨#[]⟩, .bool false]) 3 40 Tryd.underlying30 hi hz0 hz1 hz2 rfl (by decide) _ _ _ rfl (hr3.alloc _) ⟨W2.heap.size, 0, none⟩ 1 1 (pkC (n, [], d)) rfl rfl (pk_cells (by simp)) (pk_one _) (by simp only [maxLen]; omega) (by omega) (by have := q.size; simp at this ⊢; omega) ?_; intro v' w1 hown' hgrow _; have hkk := pp_keep q hp hl hrow hgrow; have e1 : Boxed w1 o 30 v := (hkk o (by omega)).trans hv; have e2 : Boxed w1 (o + 1) 4 (.bool d) := (hkk (o + 1) (by omega)).trans hd; have e3 := e1.cell; have e4 := e1.frozen; have e5 := e2.cell; have e6 := e2.frozen; obtain ⟨bb, cc, rfl⟩ := ownsRow_succ hown')
        exact pp_close q hp hl hrow hgrow hv hd hbel hown' hB
      · have hn2 : (n == [42]) = false := by simpa using hn
        have q := (hm0.name n).attr (Lib.trimSuffix a [93])
        have hr3 := q.row hp hrow
        obtain ⟨i0, hi, hz0, hz1, hz2⟩ := info_parts infoPick
        gi_wp2_with (first | (refine ⟨trivial, ?_⟩; gi_at_call 25; refine (CallsIn.inRound l (callsIn_wide.2 (hS _))).mono ?_; rintro e w' ⟨rfl, rfl⟩) | (gi_at_builtin; refine wpListIn_append_own _ rfl _ _ 30 rfl (o + 7) 59 i0 (.agg #[.string ⟨#[]⟩, .string ⟨#[]⟩, .bool false]) 3 40 Tryd.underlying30 hi hz0 hz1 hz2 rfl (by decide) _ _ _ rfl (hr3.alloc _) ⟨W2.heap.size, 0, none⟩ 1 1 (pkC (n, Lib.trimSuffix a [93], d)) rfl rfl (pk_cells (by simp)) (pk_one _) (by simp only [maxLen]; omega) (by omega) (by have := q.size; simp at this ⊢; omega) ?_; intro v' w1 hown' hgrow _; have hkk := pp_keep q hp hl hrow hgrow; have e1 : Boxed w1 o 30 v := (hkk o (by omega)).trans hv; have e2 : Boxed w1 (o + 1) 4 (.bool d) := (hkk (o + 1) (by omega)).trans hd; have e3 := e1.cell; have e4 := e1.frozen; have e5 := e2.cell; have e6 := e2.frozen; obtain ⟨bb, cc, rfl⟩ := ownsRow_succ hown'))
        exact pp_close q hp hl hrow hgrow hv hd hbel hown' hB
  case done =>
    intro W hP hD
    rw [hsz] at hD ⊢
    obtain ⟨hbel, ⟨v, hv, hrow⟩, hd, hsz2⟩ := hP
    have hfw := fold_words (splitW s) [] true
    rw [List.nil_append] at hfw
    rw [hfw] at hrow
    obtain ⟨ws, hws⟩ : ∃ ws, wordsP true (splitW s) = ws := ⟨_, rfl⟩
    rw [hws] at hrow
    have hpp : ppProg s = if pickF ws ≠ 0 ∨ txtFrom 0 ws ≠ s then .error 4 else .ok ws := by
      unfold ppProg
      rw [if_neg (by omega), hws]
    have hvc := hv.cell
    have hvf := hv.frozen
    have hlen : ∀ q ∈ ws, q.1.length ≤ maxLen ∧ q.2.1.length ≤ maxLen := by
      intro q hq
      have := wordsP_len (m := s.length) (splitW s) true (split_len s).2 q (by rw [hws]; exact hq)
      simp only [maxLen]
      omega
    have hpo := pr_out hrow hlen
    have hargs : ∀ {W' : World}, Pr W' (fun b => v.ownBlock = some b) v (.lst (ws.map pickA)) → ∀ (i : Nat) (u : Value) (x : V), [v][i]? = some u → [V.lst (ws.map pickA)][i]? = some x → Pr W' (fun b => v.ownBlock = some b) u x := fun hp i u x h1 h2 => by
      match i, h1, h2 with
      | 0, h1, h2 => cases h1; cases h2; exact hp
      | i + 1, h1, _ => simp at h1
    have hl5 : o + 5 < W.heap.size := (Array.getElem?_eq_some_iff.1 hD).1
    have hrl := fun b hb => (hrow.lt b hb).2
    have hrg := fun b hb => (hrow.lt b hb).1
    have hchk := pick_check ws W (fun b => v.ownBlock = some b) [v] rfl (hargs hpo) hrl
    have htx := fun h10 hg w2 h1 h2 => pick_text ws h10 hg w2 (fun b => v.ownBlock = some b) [v] rfl h1 h2
    by_cases hF : pickF ws = 0
    · obtain ⟨_, h10, hg⟩ := pickF_ok hF
      by_cases hT : txtFrom 0 ws = s
      · have hpp2 : ppProg s = .ok ws := by rw [hpp, if_neg (by simp [hF, hT])]
        rw [hF] at hchk
        have htx2 := htx h10 hg
        rw [hT] at htx2
        gi_wp2_with (first | (refine ⟨trivial, ?_⟩; gi_at_call 26; refine (callsIn_wide.2 hchk).mono ?_; rintro e w2 ⟨u, r0, I2, rfl, rfl, hpr, _, hk2⟩; obtain rfl := pr_intW hpr; have b2 : Boxed w2 o 30 v := (hk2.block o hv.lt (fun h => h)).trans hv; have b2c := b2.cell; have b2f := b2.frozen; have hpo2 : Pr w2 (fun b => v.ownBlock = some b) v (.lst (ws.map pickA)) := hpo.later (fun b hb => hk2.block b (hrl b hb) (fun h => h)) (fun b hb => hb); have htx3 := htx2 w2 (hargs hpo2) (fun b hb => Nat.lt_of_lt_of_le (hrl b hb) hk2.size); clear hpr) | (refine ⟨trivial, ?_⟩; gi_at_call 27; refine (callsIn_wide.2 htx3).mono ?_; rintro e w3 ⟨u, r0, I3, rfl, rfl, hpr, _, hk3⟩; obtain ⟨rfl, _⟩ := pr_str_inv hpr; clear hpr; have b3 : Boxed w3 o 30 v := (hk3.block o b2.lt (fun h => h)).trans b2; have b3c := b3.cell; have b3f := b3.frozen))
        refine ⟨by simp, .inl ⟨_, _, rfl, run_takeDeferred (((hk2.trans hk3).block _ hl5 (fun h => h)).trans hD), ?_⟩⟩
        exact ⟨_, results_tmp2 (t := 2) (u := 3) rfl _ _ _, pp_good ho hbel hsz2 (hk2.trans hk3) hpp2 hpo hrl hrg⟩
      · have hpp2 : ppProg s = .error 4 := by rw [hpp, if_pos (.inr hT)]
        rw [hF] at hchk
        have htx2 := htx h10 hg
        have hT2 : (txtFrom 0 ws == s) = false := by simpa using hT
        gi_wp2_with (first | (refine ⟨trivial, ?_⟩; gi_at_call 26; refine (callsIn_wide.2 hchk).mono ?_; rintro e w2 ⟨u, r0, I2, rfl, rfl, hpr, _, hk2⟩; obtain rfl := pr_intW hpr; have b2 : Boxed w2 o 30 v := (hk2.block o hv.lt (fun h => h)).trans hv; have b2c := b2.cell; have b2f := b2.frozen; have hpo2 : Pr w2 (fun b => v.ownBlock = some b) v (.lst (ws.map pickA)) := hpo.later (fun b hb => hk2.block b (hrl b hb) (fun h => h)) (fun b hb => hb); have htx3 := htx2 w2 (hargs hpo2) (fun b hb => Nat.lt_of_lt_of_le (hrl b hb) hk2.size); clear hpr) | (refine ⟨trivial, ?_⟩; gi_at_call 27; refine (callsIn_wide.2 htx3).mono ?_; rintro e w3 ⟨u, r0, I3, rfl, rfl, hpr, _, hk3⟩; obtain ⟨rfl, _⟩ := pr_str_inv hpr; clear hpr; have b3 : Boxed w3 o 30 v := (hk3.block o b2.lt (fun h => h)).trans b2; have b3c := b3.cell; have b3f := b3.frozen))
        refine ⟨by simp, .inl ⟨_, _, rfl, run_takeDeferred (((hk2.trans hk3).block _ hl5 (fun h => h)).trans hD), ?_⟩⟩
        exact ⟨_, results_tmp2 (t := 2) (u := 3) rfl _ _ _, pp_fail 4 ho hbel hsz2 (hk2.trans hk3) hpp2⟩
    · have hpp2 : ppProg s = .error 4 := by rw [hpp, if_pos (.inl hF)]
      have hF2 : (pickF ws != 0) = true := by simpa using hF
      gi_wp2_with (first | (refine ⟨trivial, ?_⟩; gi_at_call 26; refine (callsIn_wide.2 hchk).mono ?_; rintro e w2 ⟨u, r0, I2, rfl, rfl, hpr, _, hk2⟩; obtain rfl := pr_intW hpr; have b2 : Boxed w2 o 30 v := (hk2.block o hv.lt (fun h => h)).trans hv; have b2c := b2.cell; have b2f := b2.frozen; have hpo2 : Pr w2 (fun b => v.ownBlock = some b) v (.lst (ws.map pickA)) := hpo.later (fun b hb => hk2.block b (hrl b hb) (fun h => h)) (fun b hb => hb); clear hpr))
      refine ⟨trivial, ?_⟩
      gi_wp2
      refine ⟨by simp, .inl ⟨_, _, rfl, run_takeDeferred ((hk2.block _ hl5 (fun h => h)).trans hD), ?_⟩⟩
      exact ⟨_, results_tmp2 (t := 2) (u := 3) rfl _ _ _, pp_fail 4 ho hbel hsz2 hk2 hpp2⟩
set_option maxRecDepth 100000 in
set_option maxHeartbeats 4000000 in
theorem pick_parse (s : Ys) : Fn1G Tryd.prog GM 10 [.str s] (fun r => r = ppV (ppProg s)) := by
  intro w I vs hG hl hv hI
  obtain ⟨v0, rfl⟩ : ∃ v0, vs = [v0] := by
    match vs, hl with
    | [a], _ => exact ⟨a, rfl⟩
  obtain ⟨rfl, hsm⟩ := pr_str_inv (hv 0 v0 _ rfl rfl)
  by_cases h6 : s.length ≤ 600
  · obtain ⟨m, hm⟩ := hG
    refine (pick_walk s h6 w m hm).mono ?_
    rintro e w' ⟨v, r, I', h1, h2, h3, h4, h5⟩
    exact ⟨v, r, I', h1, h2, h3, fun b hb => ⟨(h4 b hb).1, .inr (h4 b hb).2⟩, h5⟩
  · have hpp : ppProg s = .error 1 := by unfold ppProg; rw [if_pos (by omega)]
    have h7 : 600 < (s.length : Int) := by omega
    have h8 : Calls Tryd.prog 10 #[.string ⟨s.toArray⟩] w fun e w' => e = .returned (.tuple #[.slice none 0 0, .int .i64 1]) ∧ w' = w := by
      go_enter Tryd.func10, Tryd.ntmps10
      go_wp2
      exact ⟨rfl, _, results_tmp2 (t := 2) (u := 3) rfl _ _ _, rfl, rfl⟩
    refine h8.mono ?_
    rintro e w' ⟨rfl, rfl⟩
    refine ⟨_, _, fun _ => False, rfl, (congrArg ppV hpp).symm, ?_, fun b h => h.elim, Kept.refl _ _⟩
    refine Pr.tup [.slice none 0 0, .int .i64 1] _ rfl fun i u y h1 h2 => ?_
    match i, h1, h2 with
    | 0, h1, h2 => cases h1; cases h2; exact .lnil none 0
    | 1, h1, h2 => cases h1; cases h2; exact .int _ _
    | i + 2, h1, _ => simp at h1
end Go.Proofs.YtkkcmobnhiiacaaDoor

/-! SamePicks at equal lists; the law PickParses. No conditions. -/
namespace Go.Proofs.YtkkcmobnhiiacaaDoor
open Go.RowKit

theorem same_picks (l : List Pk) : Fn1 Tryd.prog 12 [.lst (l.map pickA), .lst (l.map pickA)] (fun r => r = .bool true) := by
  have hlm : (l.map pickA).length = l.length := by simp
  refine fn1E (T := Tryd.tt) Tryd.func12 rfl tt_all follows_all ?_ ?_ fun C hC hE => ?_
  · kernel_rfl
  · exact Nat.le_of_ble_eq_true (by kernel_rfl)
  conv => whnf
  repeat' (first | (refine brd_t (by first | assumption | omega) ?_; conv => whnf) | (refine brd_f (by first | assumption | omega) ?_; conv => whnf) | (refine ask (by first | assumption | omega) ?_; conv => whnf) | (refine fit64 (by omega) ?_; conv => whnf) | (refine fit (by simp only [kmin, kmax]; omega) ?_; conv => whnf) | (refine br_t (by assumption) ?_; conv => whnf) | (refine br_f (by assumption) ?_; conv => whnf) | (refine get_of (by assumption) ?_; conv => whnf) | (refine get_map (by assumption) ?_; conv => whnf) | (refine draw_lex hE ?_ ?_; decide +kernel; conv => whnf) | (refine draw_any hE [⟨0, [(0, none), (1, none), (2, none), (3, none), (4, none), (5, none), (6, none), (7, none), (8, none)], none, [], [[]]⟩] ?_ ?_; decide +kernel; conv => whnf) | (refine brd (fun h => ?_) (fun h => ?_) <;> conv => whnf) | (refine br (fun h => ?_) (fun h => ?_) <;> conv => whnf) | (refine ret_now hE ?_; conv => whnf) | (intro hlen; conv => whnf) | (refine seg_here ?_; conv => whnf) | (refine both ?_ ?_ <;> conv => whnf))
  refine loopE (fun k : Nat => ⟨26, [(0, .lst (l.map pickA)), (1, .lst (l.map pickA)), (12, .int .i64 (l.map pickA).length), (13, .int .i64 k)], []⟩) (fun k => k ≤ l.length) (fun k => l.length - k) 0 hE ?_ ?_ (Nat.zero_le _) ?_
  · kernel_rfl
  · exact at_keep [0, 1, 12, 13] rfl
  intro k hk
  by_cases hlt : k < l.length
  · obtain ⟨x, hx⟩ : ∃ x, l[k]? = some x := ⟨_, List.getElem?_eq_getElem hlt⟩
    conv => whnf
    repeat' (first | (refine brd_t (by first | assumption | omega) ?_; conv => whnf) | (refine brd_f (by first | assumption | omega) ?_; conv => whnf) | (refine ask (by first | assumption | omega) ?_; conv => whnf) | (refine fit64 (by omega) ?_; conv => whnf) | (refine fit (by simp only [kmin, kmax]; omega) ?_; conv => whnf) | (refine br_t (by assumption) ?_; conv => whnf) | (refine br_f (by assumption) ?_; conv => whnf) | (refine get_of (by assumption) ?_; conv => whnf) | (refine get_map (by assumption) ?_; conv => whnf) | (refine draw_lex hE ?_ ?_; decide +kernel; conv => whnf) | (refine draw_any hE [⟨0, [(0, none), (1, none), (2, none), (3, none), (4, none), (5, none), (6, none), (7, none), (8, none)], none, [], [[]]⟩] ?_ ?_; decide +kernel; conv => whnf) | (refine brd (fun h => ?_) (fun h => ?_) <;> conv => whnf) | (refine br (fun h => ?_) (fun h => ?_) <;> conv => whnf) | (refine ret_now hE ?_; conv => whnf) | (intro hlen; conv => whnf) | (refine seg_here ?_; conv => whnf) | (refine both ?_ ?_ <;> conv => whnf))
    all_goals first | exact next_keep [0, 1, 12, 13] (k + 1) hlt (by omega) rfl | (exfalso; simp_all; done)
  · conv => whnf
    repeat' (first | (refine brd_t (by first | assumption | omega) ?_; conv => whnf) | (refine brd_f (by first | assumption | omega) ?_; conv => whnf) | (refine ask (by first | assumption | omega) ?_; conv => whnf) | (refine fit64 (by omega) ?_; conv => whnf) | (refine fit (by simp only [kmin, kmax]; omega) ?_; conv => whnf) | (refine br_t (by assumption) ?_; conv => whnf) | (refine br_f (by assumption) ?_; conv => whnf) | (refine get_of (by assumption) ?_; conv => whnf) | (refine get_map (by assumption) ?_; conv => whnf) | (refine draw_lex hE ?_ ?_; decide +kernel; conv => whnf) | (refine draw_any hE [⟨0, [(0, none), (1, none), (2, none), (3, none), (4, none), (5, none), (6, none), (7, none), (8, none)], none, [], [[]]⟩] ?_ ?_; decide +kernel; conv => whnf) | (refine brd (fun h => ?_) (fun h => ?_) <;> conv => whnf) | (refine br (fun h => ?_) (fun h => ?_) <;> conv => whnf) | (refine ret_now hE ?_; conv => whnf) | (intro hlen; conv => whnf) | (refine seg_here ?_; conv => whnf) | (refine both ?_ ?_ <;> conv => whnf))
    exact ⟨rfl, rfl⟩
theorem ref_pick_long (s : Ys) (h6 : 600 < s.length) : Fn1 Tryd.prog 11 [.str s] (fun r => r = ppV (ppRef s)) := by
  unfold ppRef
  refine fn1_nl ?_
  rw [if_pos h6]
  refine fn1E (T := Tryd.tt) Tryd.func11 rfl tt_all follows_all ?_ ?_ fun C hC hE => ?_
  · kernel_rfl
  · exact Nat.le_of_ble_eq_true (by kernel_rfl)
  conv => whnf
  repeat' (first | (refine brd_t (by first | assumption | omega) ?_; conv => whnf) | (refine brd_f (by first | assumption | omega) ?_; conv => whnf) | (refine ask (by first | assumption | omega) ?_; conv => whnf) | (refine fit64 (by omega) ?_; conv => whnf) | (refine fit (by simp only [kmin, kmax]; omega) ?_; conv => whnf) | (refine br_t (by assumption) ?_; conv => whnf) | (refine br_f (by assumption) ?_; conv => whnf) | (refine get_of (by assumption) ?_; conv => whnf) | (refine get_map (by assumption) ?_; conv => whnf) | (refine draw_lex hE ?_ ?_; decide +kernel; conv => whnf) | (refine brd (fun h => ?_) (fun h => ?_) <;> conv => whnf) | (refine br (fun h => ?_) (fun h => ?_) <;> conv => whnf) | (refine ret_now hE ?_; conv => whnf) | (intro hlen; conv => whnf) | (refine seg_here ?_; conv => whnf) | (refine both ?_ ?_ <;> conv => whnf))
  all_goals exact ⟨rfl, by simp [V.nl, nlL, ppV]⟩
theorem ref_pick_all (s : Ys) : Fn1 Tryd.prog 11 [.str s] (fun r => r = ppV (ppRef s)) := by
  by_cases h6 : 600 < s.length
  · exact ref_pick_long s h6
  · exact ref_pick_parse s (by omega)
theorem pickParses_law (s : List UInt8) (_ : s.length ≤ 140737488351232) : Fn1G Tryd.prog GM 4 [.str s] (fun r => r = .bool true) := by
  have h1 := pick_parse s
  have h2 := ref_pick_all s
  rw [pp_same] at h1
  cases hx : ppRef s with
  | error e =>
    rw [hx] at h1 h2
    have h3 := same_picks []
    simp only [ppV, List.map_nil] at h1 h2 h3
    refine fn1GE (T := Tryd.tt) Tryd.func4 rfl tt_all follows_all ?_ ?_ fun C hC hW hG hE => ?_
    · kernel_rfl
    · exact Nat.le_of_ble_eq_true (by kernel_rfl)
    conv => whnf
    have hc := h1.c hC hW kept_gm hG
    repeat' (first | (refine brd_t (by first | assumption | omega) ?_; conv => whnf) | (refine brd_f (by first | assumption | omega) ?_; conv => whnf) | (refine ask (by first | assumption | omega) ?_; conv => whnf) | (refine fit64 (by omega) ?_; conv => whnf) | (refine fit (by simp only [kmin, kmax]; omega) ?_; conv => whnf) | (refine br_t (by assumption) ?_; conv => whnf) | (refine br_f (by assumption) ?_; conv => whnf) | (refine get_of (by assumption) ?_; conv => whnf) | (refine get_map (by assumption) ?_; conv => whnf) | (refine callc_eq (hc) hC hasBody_10 rfl ?_ ?_ ?_; kernel_rfl; kernel_rfl; conv => whnf) | (refine callcq_eq (hc) hC hasBody_10 rfl ?_ ?_ ?_; kernel_rfl; kernel_rfl; conv => whnf) | (refine call_eq (h2) hC hasBody_11 ?_ ?_ ?_; kernel_rfl; kernel_rfl; conv => whnf) | (refine callq_eq (h2) hC hasBody_11 ?_ ?_ ?_; kernel_rfl; kernel_rfl; conv => whnf) | (refine call_eq (h3) hC hasBody_12 ?_ ?_ ?_; kernel_rfl; kernel_rfl; conv => whnf) | (refine callq_eq (h3) hC hasBody_12 ?_ ?_ ?_; kernel_rfl; kernel_rfl; conv => whnf) | (refine brd_t rfl ?_; conv => whnf) | (refine draw_lex hE ?_ ?_; decide +kernel; conv => whnf) | (refine brd (fun h => ?_) (fun h => ?_) <;> conv => whnf) | (refine br (fun h => ?_) (fun h => ?_) <;> conv => whnf) | (refine ret_now hE ?_; conv => whnf) | (intro hlen; conv => whnf) | (refine seg_here ?_; conv => whnf) | (refine both ?_ ?_ <;> conv => whnf))
    all_goals exact ⟨rfl, rfl⟩
  | ok l =>
    rw [hx] at h1 h2
    have h3 := same_picks l
    simp only [ppV] at h1 h2
    refine fn1GE (T := Tryd.tt) Tryd.func4 rfl tt_all follows_all ?_ ?_ fun C hC hW hG hE => ?_
    · kernel_rfl
    · exact Nat.le_of_ble_eq_true (by kernel_rfl)
    conv => whnf
    have hc := h1.c hC hW kept_gm hG
    repeat' (first | (refine brd_t (by first | assumption | omega) ?_; conv => whnf) | (refine brd_f (by first | assumption | omega) ?_; conv => whnf) | (refine ask (by first | assumption | omega) ?_; conv => whnf) | (refine fit64 (by omega) ?_; conv => whnf) | (refine fit (by simp only [kmin, kmax]; omega) ?_; conv => whnf) | (refine br_t (by assumption) ?_; conv => whnf) | (refine br_f (by assumption) ?_; conv => whnf) | (refine get_of (by assumption) ?_; conv => whnf) | (refine get_map (by assumption) ?_; conv => whnf) | (refine callc_eq (hc) hC hasBody_10 rfl ?_ ?_ ?_; kernel_rfl; kernel_rfl; conv => whnf) | (refine callcq_eq (hc) hC hasBody_10 rfl ?_ ?_ ?_; kernel_rfl; kernel_rfl; conv => whnf) | (refine call_eq (h2) hC hasBody_11 ?_ ?_ ?_; kernel_rfl; kernel_rfl; conv => whnf) | (refine callq_eq (h2) hC hasBody_11 ?_ ?_ ?_; kernel_rfl; kernel_rfl; conv => whnf) | (refine call_eq (h3) hC hasBody_12 ?_ ?_ ?_; kernel_rfl; kernel_rfl; conv => whnf) | (refine callq_eq (h3) hC hasBody_12 ?_ ?_ ?_; kernel_rfl; kernel_rfl; conv => whnf) | (refine brd_t rfl ?_; conv => whnf) | (refine draw_lex hE ?_ ?_; decide +kernel; conv => whnf) | (refine brd (fun h => ?_) (fun h => ?_) <;> conv => whnf) | (refine br (fun h => ?_) (fun h => ?_) <;> conv => whnf) | (refine ret_now hE ?_; conv => whnf) | (intro hlen; conv => whnf) | (refine seg_here ?_; conv => whnf) | (refine both ?_ ?_ <;> conv => whnf))
    all_goals exact ⟨rfl, rfl⟩
end Go.Proofs.YtkkcmobnhiiacaaDoor
