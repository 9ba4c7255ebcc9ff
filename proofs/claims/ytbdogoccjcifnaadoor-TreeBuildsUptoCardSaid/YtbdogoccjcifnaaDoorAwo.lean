/- Abstract walk: the greater of two numbers, bytes as a string, ranging over a string. No conditions. -/
import Derived.Test.YtbdogoccjcifnaaDoorAwn
import Derived.RangeFuncRecord
set_option linter.unusedSimpArgs false
set_option linter.unusedVariables false
set_option maxRecDepth 100000
namespace Go.Proofs.YtbdogoccjcifnaaDoor
open Go.RowKit

/-! ### max, min of two numbers -/
def maxI (a b : Int) : Int := if b > a then b else a
def minI (a b : Int) : Int := if b < a then b else a
def MaxK (f : Int → Int → Int) (x y : V) (K : V → St → Prop) (σ : St) : Prop :=
  match x, y with
  | .int k a, .int _ b => K (.int k (f a b)) σ
  | _, _ => False
theorem max_ok {C : Ctx} {o : Oper} {σ : St} {K : V → St → Prop} {ts : Array TypeId} {x y : Operand} (ho : o.op = .call { callee := .builtin .max, args := #[x, y], argTypes := ts }) (h : MaxK maxI (σ.val x) (σ.val y) K σ) : OpOk C o σ K := by
  unfold MaxK at h
  split at h
  · rename_i k a k' b hx hy
    refine opOk_pure _ h fun ac w I bl hp => ⟨.int k (maxI a b), ?_, .pure _ _ (.int _ _)⟩
    have h1 := hp.val x; rw [hx] at h1
    have h2 := hp.val y; rw [hy] at h2
    simp [execOp, ho, resolve, invoke, builtin, h1.inv_int, h2.inv_int, Builtin.max_, Builtin.max2, maxI]
  · exact h.elim
theorem min_ok {C : Ctx} {o : Oper} {σ : St} {K : V → St → Prop} {ts : Array TypeId} {x y : Operand} (ho : o.op = .call { callee := .builtin .min, args := #[x, y], argTypes := ts }) (h : MaxK minI (σ.val x) (σ.val y) K σ) : OpOk C o σ K := by
  unfold MaxK at h
  split at h
  · rename_i k a k' b hx hy
    refine opOk_pure _ h fun ac w I bl hp => ⟨.int k (minI a b), ?_, .pure _ _ (.int _ _)⟩
    have h1 := hp.val x; rw [hx] at h1
    have h2 := hp.val y; rw [hy] at h2
    simp [execOp, ho, resolve, invoke, builtin, h1.inv_int, h2.inv_int, Builtin.min_, Builtin.min2, minI]
  · exact h.elim

/-! ### Bytes as a string -/
def byteV (c : UInt8) : V := .int .u8 c.toNat
def BytesK (C : Ctx) (s t : TypeId) (x : V) (K : V → St → Prop) (σ : St) : Prop :=
  match x with
  | .lst _ | .sl _ _ _ | .nils => (∃ e, EI C.P s = some (e, 1) ∧ intK C.P e = some .u8) ∧ isStr C.P t = true ∧ SrcK σ 1 x fun els => ∃ bs : List UInt8, els = bs.map byteV ∧ bs.length ≤ maxLen ∧ K (.str bs) σ
  | _ => False

theorem push_bytes (bs : List UInt8) : ∀ acc : ByteArray, (bs.foldl (fun s c => s.push c) acc).data.toList = acc.data.toList ++ bs := by
  induction bs with
  | nil => intro acc; simp
  | cons c bs ih => intro acc; rw [List.foldl_cons, ih]; simp [ByteArray.push]

theorem bytes_loop {P : Program} {w : World} {body : Value → ByteArray → Sem (ForInStep ByteArray)} (hb : ∀ (c : UInt8) (s : ByteArray), (body (.int .u8 c.toNat) s).run P w = .ok (.yield (s.push c)) w) (bs : List UInt8) (acc : ByteArray) :
    (forIn (m := Sem) (bs.map fun c => Value.int .u8 c.toNat) acc body).run P w = .ok (bs.foldl (fun s c => s.push c) acc) w := by
  induction bs generalizing acc with
  | nil => simp
  | cons c bs ih =>
    simp only [List.map_cons, List.forIn_cons, Sem.run_bind, List.foldl_cons, hb, Result.andThen_ok]
    exact ih _

theorem bytes_ok {C : Ctx} {o : Oper} {σ : St} {K : V → St → Prop} {s t : TypeId} {x : Operand} (ho : o.op = .convert s t x) (h : BytesK C s t (σ.val x) K σ) : OpOk C o σ K := by
  have h' : (∃ e, EI C.P s = some (e, 1) ∧ intK C.P e = some .u8) ∧ isStr C.P t = true ∧ (∀ b, σ.val x ≠ .str b) ∧ SrcK σ 1 (σ.val x) fun els => ∃ bs : List UInt8, els = bs.map byteV ∧ bs.length ≤ maxLen ∧ K (.str bs) σ := by
    unfold BytesK at h
    split at h
    · rename_i l hx; exact ⟨h.1, h.2.1, by rw [hx]; simp, h.2.2⟩
    · rename_i a b c hx; exact ⟨h.1, h.2.1, by rw [hx]; simp, h.2.2⟩
    · rename_i hx; exact ⟨h.1, h.2.1, by rw [hx]; simp, h.2.2⟩
    · exact h.elim
  obtain ⟨⟨e, hei, hk⟩, hst, hns, hsrc⟩ := h'
  obtain ⟨els, ⟨bs, rfl, hbl, hK⟩, hs⟩ := src_ok hsrc
  obtain ⟨hu, _, _⟩ := ei_some hei
  have hue : C.P.underlying e = some (.int .u8) := by
    unfold intK at hk
    split at hk
    · rename_i k' he; simp only [Option.some.injEq] at hk; subst hk; exact he
    · cases hk
  refine opOk_value fun a w I bl hp => ?_
  obtain ⟨news, hsrc'⟩ := hs a w I bl hp
  have hn : news = bs.map fun c => Value.int .u8 c.toNat := by
    have hc := hsrc'.cells
    apply List.ext_getElem?
    intro i
    have hlen : news.length = bs.length := by rw [hc.1]; simp
    by_cases hi : i < bs.length
    · have h1 : news[i]? = some news[i] := List.getElem?_eq_getElem (by omega)
      have h2 : (bs.map byteV)[i]? = some (byteV bs[i]) := by simp [hi]
      have := hc.2.2.2 i (byteV bs[i]) 0 (byteV bs[i]) news[i] h2 rfl (by simp)
      rw [h1, this.inv_int]
      simp [hi]
    · rw [List.getElem?_eq_none (by omega), List.getElem?_eq_none (by simp; omega)]
  have hlen := hsrc'.len w
  have hfirst := hsrc'.first w rfl
  have hsl : ∃ q n c, a.eval x = .slice q n c := by
    have hv := hp.val x
    cases hx : σ.val x with
    | str b => exact absurd hx (hns b)
    | lst l => rw [hx] at hv; obtain ⟨q, n, c, e, _⟩ := lst_nil hv; exact ⟨q, n, c, e⟩
    | sl i1 i2 i3 => rw [hx] at hv; obtain ⟨q, n, c, e, _⟩ := sl_nil hv; exact ⟨q, n, c, e⟩
    | nils => rw [hx] at hv; exact ⟨_, _, _, hv.inv_nils⟩
    | _ => rw [hx] at hsrc; simp [SrcK] at hsrc
  obtain ⟨q, n, c, hq⟩ := hsl
  rw [hq] at hlen hfirst
  have hnl : n = bs.length := by simpa [Builtin.lenOf] using hlen
  subst hnl
  have hrun : (Conv.bytesToString (.slice q bs.length c)).run C.P w = .ok (.string (bs.foldl (fun s c => s.push c) ByteArray.empty)) w := by
    cases q with
    | none =>
      have : news = [] := by simpa [Builtin.firstCells] using hfirst.symm
      rw [hn] at this
      have : bs = [] := by simpa using this
      subst this
      simp [Conv.bytesToString]
    | some q =>
      have hld : (loadCells q bs.length).run C.P w = .ok news.toArray w := by simpa [Builtin.firstCells] using hfirst
      unfold Conv.bytesToString
      simp only [Sem.run_bind, hld, Result.andThen_ok, hn]
      rw [List.forIn_toArray, bytes_loop (fun c s => by simp)]
      simp
  have hd := push_bytes bs ByteArray.empty
  have hd : (bs.foldl (fun s c => s.push c) ByteArray.empty).data.toList = bs := by rw [hd]; rfl
  refine ⟨.string (bs.foldl (fun s c => s.push c) ByteArray.empty), w, .str bs, σ, ?_, hK, hp.relx ?_⟩
  · simp only [execOp, ho, hq]
    have : (convert s t (.slice q bs.length c)).run C.P w = .ok (.string (bs.foldl (fun s c => s.push c) ByteArray.empty)) w := by
      unfold convert
      simp only [Sem.run_bind, run_underlying hu, run_underlying (isStr_some hst), Result.andThen_ok, run_underlying hue]
      exact hrun
    simp [this]
  · have := Pr.str (w := w) (I := I) (bs.foldl (fun s c => s.push c) ByteArray.empty) (by
      show (bs.foldl (fun s c => s.push c) ByteArray.empty).data.size ≤ maxLen
      rw [← Array.length_toList, hd]; exact hbl)
    rw [hd] at this
    exact .pure _ _ this

def BinQ (P : Program) (t : TypeId) (op : BinOp) (x y : V) (K : V → St → Prop) (σ : St) : Prop :=
  match x, y with
  | .int k a, .int k' b => BinX P t op (.int k a) (.int k' b) K σ
  | x, y => BinK P t op x y K σ
theorem binx_of_q {P : Program} {t : TypeId} {op : BinOp} {x y : V} {K : V → St → Prop} {σ : St} (h : BinQ P t op x y K σ) : BinX P t op x y K σ := by
  unfold BinQ at h
  split at h
  · exact h
  · exact binx_of_bin h

/-! ### Ranging over a string -/
/-- A new object of any kind. -/
theorem RP.newObB {C : Ctx} {σ : St} {a : Act} {w : World} {I : Nat → Prop} {bl : Nat → Option BI} (hp : RP C σ a w I bl) (obj : Obj) (ob : Ob) (z : Nat) {base : Nat}
    (hob : ObRep (w.alloc obj) I (upd bl (freshIn σ.heap) ⟨some w.heap.size, base, z⟩) (freshIn σ.heap) ob) :
    RP C { σ with heap := putOb σ.heap ob } a (w.alloc obj) I (upd bl (freshIn σ.heap) ⟨some w.heap.size, base, z⟩) := by
  have hl := later_alloc I w obj (fun b hb => (hp.heap.imm b hb).1)
  have hb : ∀ k i, bl k = some i → upd bl (freshIn σ.heap) ⟨some w.heap.size, base, z⟩ k = some i := fun k i h => by rw [upd_other (hp.live_ne h)]; exact h
  refine ⟨hp.defers, hp.env.later hl (fun _ h => h) hb, ⟨?_, ?_, ?_, ?_, ?_, hp.heap.kept.alloc _⟩⟩
  · intro id o ho
    by_cases hid : id = freshIn σ.heap
    · subst hid
      rw [putOb_fresh] at ho
      simp only [Option.some.injEq] at ho
      subst ho
      exact hob
    · simp only [putOb_other _ _ _ hid] at ho
      refine (hp.heap.obj id o ho).later hl (fun _ h => h) hb ?_ (fun h => by rw [upd_other hid]; exact h)
      intro i b h1 h2
      exact heap_alloc_was w _ b (hp.heap.own id i b h1 h2).1
  · intro id i h
    by_cases hid : id = freshIn σ.heap
    · subst hid; exact ⟨_, putOb_fresh _ _⟩
    · rw [upd_other hid] at h
      obtain ⟨o, ho⟩ := hp.heap.live id i h
      exact ⟨o, by simp only [putOb_other _ _ _ hid]; exact ho⟩
  · intro id id' i i' b h1 h2 h3 h4
    by_cases hid : id = freshIn σ.heap
    · by_cases hid' : id' = freshIn σ.heap
      · rw [hid, hid']
      · subst hid
        rw [upd_same] at h1
        simp only [Option.some.injEq] at h1
        subst h1
        simp only [Option.some.injEq] at h3
        rw [upd_other hid'] at h2
        have := (hp.heap.own id' i' b h2 h4).1
        omega
    · rw [upd_other hid] at h1
      by_cases hid' : id' = freshIn σ.heap
      · subst hid'
        rw [upd_same] at h2
        simp only [Option.some.injEq] at h2
        subst h2
        simp only [Option.some.injEq] at h4
        have := (hp.heap.own id i b h1 h3).1
        omega
      · rw [upd_other hid'] at h2
        exact hp.heap.apart id id' i i' b h1 h2 h3 h4
  · intro id i b h1 h2
    by_cases hid : id = freshIn σ.heap
    · subst hid
      rw [upd_same] at h1
      simp only [Option.some.injEq] at h1
      subst h1
      simp only [Option.some.injEq] at h2
      subst h2
      refine ⟨by simp, fun h => ?_, .inr hp.heap.kept.size⟩
      have := (hp.heap.imm _ h).1
      omega
    · rw [upd_other hid] at h1
      obtain ⟨h3, h4, h5⟩ := hp.heap.own id i b h1 h2
      exact ⟨by simp; omega, h4, h5⟩
  · intro k hk
    obtain ⟨h1, h2⟩ := hp.heap.imm k hk
    exact ⟨by simp; omega, h2⟩

/-- The bytes of a string, as a slice of the call's own. -/
def StrBK (C : Ctx) (s t : TypeId) (b : List UInt8) (K : V → St → Prop) (σ : St) : Prop :=
  ∃ e, EI C.P t = some (e, 1) ∧ intK C.P e = some .u8 ∧ isStr C.P s = true ∧ K (.sl (freshIn σ.heap) 0 b.length) { σ with heap := putOb σ.heap (.row 1 (b.map byteV)) }
theorem RP.newOb {C : Ctx} {σ : St} {a : Act} {w : World} {I : Nat → Prop} {bl : Nat → Option BI} (hp : RP C σ a w I bl) (obj : Obj) (ob : Ob) (z : Nat)
    (hob : ObRep (w.alloc obj) I (upd bl (freshIn σ.heap) ⟨some w.heap.size, 0, z⟩) (freshIn σ.heap) ob) :
    RP C { σ with heap := putOb σ.heap ob } a (w.alloc obj) I (upd bl (freshIn σ.heap) ⟨some w.heap.size, 0, z⟩) := hp.newObB obj ob z hob
theorem strb_ok {C : Ctx} {o : Oper} {σ : St} {K : V → St → Prop} {s t : TypeId} {x : Operand} {b : List UInt8} (ho : o.op = .convert s t x) (hx : σ.val x = .str b) (h : StrBK C s t b K σ) : OpOk C o σ K := by
  obtain ⟨e, hei, hk, hst, hK⟩ := h
  obtain ⟨hu, _, _⟩ := ei_some hei
  have hue : C.P.underlying e = some (.int .u8) := by
    unfold intK at hk
    split at hk
    · rename_i k' he; simp only [Option.some.injEq] at hk; subst hk; exact he
    · cases hk
  refine opOk_value fun a w I bl hp => ?_
  have hv := hp.val x
  rw [hx] at hv
  obtain ⟨bs, hbs, rfl, hmax⟩ := hv.inv_str
  have hsz : bs.data.toList.length = bs.size := by simp
  have hge := grownCap_ge w bs.size 0 e
  have hcm := grownCap_le_maxLen w bs.size 0 e hmax
  have hrun := run_bytes_of_string (P := C.P) w s t e bs (isStr_some hst) hu hue
  have hrs : (bytesRow bs (grownCap w bs.size 0 e)).size = grownCap w bs.size 0 e := by
    simp only [bytesRow, Array.size_append, Array.size_map, Array.size_replicate]
    have : bs.data.size = bs.size := rfl
    omega
  have hget : ∀ (i : Nat) (c : UInt8), bs.data.toList[i]? = some c → (bytesRow bs (grownCap w bs.size 0 e))[i]? = some (.int .u8 c.toNat) := by
    intro i c hc
    have hi := (List.getElem?_eq_some_iff.1 hc).1
    unfold bytesRow
    rw [Array.getElem?_append_left (by simpa using hi), Array.getElem?_map, ← Array.getElem?_toList, hc]
    rfl
  have hob := hp.drew.newOb (.cells (bytesRow bs (grownCap w bs.size 0 e)) e ((bytesRow bs (grownCap w bs.size 0 e)).size, (bytesRow bs (grownCap w bs.size 0 e)).size + 1)) (.row 1 (bs.data.toList.map byteV)) 1 (by
    refine ⟨_, upd_same _ _ _, rfl, fun i y hy => ?_, bytesRow bs (grownCap w bs.size 0 e), e, ⟨_, .inr ⟨rfl, Nat.le_refl _⟩, heap_alloc_new w.drew _⟩, ?_, fun i y j c hy hc => ?_⟩
    · rw [List.getElem?_map] at hy
      cases h1 : bs.data.toList[i]? with
      | none => simp [h1] at hy
      | some c => simp [h1] at hy; subst hy; rfl
    · rw [hrs, List.length_map, hsz]; simp only; omega
    · rw [List.getElem?_map] at hy
      cases h1 : bs.data.toList[i]? with
      | none => simp [h1] at hy
      | some d =>
        simp [h1] at hy
        subst hy
        cases j with
        | succ j => simp [byteV, V.cells] at hc
        | zero =>
          simp only [byteV, V.cells, List.getElem?_cons_zero, Option.some.injEq] at hc
          subst hc
          refine ⟨.int .u8 d.toNat, ?_, rfl, .pure _ _ (.int _ _)⟩
          simp only [Nat.zero_add, Nat.mul_one, Nat.add_zero]
          exact hget i d h1)
  refine ⟨.slice (some ⟨w.heap.size, 0, none⟩) bs.size (grownCap w bs.size 0 e), _, _, _, ?_, hK, hob.relx ?_⟩
  · simp only [execOp, ho, hbs, Sem.run_bind, hrun, Result.andThen_ok]
    rfl
  · rw [hsz]
    have := Rep.sl (w := w.drew.alloc (.cells (bytesRow bs (grownCap w bs.size 0 e)) e ((bytesRow bs (grownCap w bs.size 0 e)).size, (bytesRow bs (grownCap w bs.size 0 e)).size + 1))) (I := I) (bl := upd bl (freshIn σ.heap) ⟨some w.drew.heap.size, 0, 1⟩) (freshIn σ.heap) 0 bs.size (grownCap w bs.size 0 e) w.drew.heap.size 0 1 (bytesRow bs (grownCap w bs.size 0 e)).size e (upd_same bl _ _) (by
      simp only [World.shape?]
      rw [heap_alloc_new w.drew _]) (by rw [hrs]; omega) hge hcm
    simpa using this
def ConvX (C : Ctx) (s t : TypeId) (x : V) (K : V → St → Prop) (σ : St) : Prop :=
  match x with
  | .lst l => BytesK C s t (.lst l) K σ
  | .sl a b c => BytesK C s t (.sl a b c) K σ
  | .nils => BytesK C s t .nils K σ
  | .str b => ConvK C.P s t (.str b) K σ ∨ StrBK C s t b K σ
  | x => ConvK C.P s t x K σ
theorem convx_ok {C : Ctx} {o : Oper} {σ : St} {K : V → St → Prop} {s t : TypeId} {x : Operand} (ho : o.op = .convert s t x) (h : ConvX C s t (σ.val x) K σ) : OpOk C o σ K := by
  unfold ConvX at h
  split at h
  · rename_i hx; exact bytes_ok ho (hx ▸ h)
  · rename_i hx; exact bytes_ok ho (hx ▸ h)
  · rename_i hx; exact bytes_ok ho (hx ▸ h)
  · rename_i b hx
    rcases h with h | h
    · exact conv_ok ho (hx ▸ h)
    · exact strb_ok ho hx h
  · exact conv_ok ho h
theorem convx_of_conv {C : Ctx} {s t : TypeId} {x : V} {K : V → St → Prop} {σ : St} (h : ConvK C.P s t x K σ) : ConvX C s t x K σ := by
  unfold ConvX
  split
  all_goals first | exact h | exact .inl h | exact (h : False).elim
/-- What a region that draws its order may convert. -/
def ConvQ (C : Ctx) (s t : TypeId) (x : V) (K : V → St → Prop) (σ : St) : Prop :=
  match x with
  | .lst l => BytesK C s t (.lst l) K σ
  | x => ConvK C.P s t x K σ
theorem convx_of_q {C : Ctx} {s t : TypeId} {x : V} {K : V → St → Prop} {σ : St} (h : ConvQ C s t x K σ) : ConvX C s t x K σ := by
  unfold ConvQ at h
  split at h
  · exact h
  · exact convx_of_conv h

theorem later_putObj {I : Nat → Prop} {w : World} {b : Nat} {o0 o : Obj} (hg : w.heap[b]? = some o0) (h0 : ∀ c e f, o0 ≠ .cells c e f) (hI : ¬ I b) : Later I w (w.putObj b o) := by
  refine ⟨fun k hk => World.putObj_heap_other (fun e => hI (e ▸ hk)), fun k s hs => ?_⟩
  by_cases hk : k = b
  · subst hk
    simp only [World.shape?, hg] at hs
    cases o0 <;> simp at hs
    exact absurd rfl (h0 _ _ _)
  · rw [shape_of_heap (World.putObj_heap_other hk)]
    exact hs

/-- An object that is no row, turned in place. -/
theorem RP.setOb {C : Ctx} {σ : St} {a : Act} {w : World} {I : Nat → Prop} {bl : Nat → Option BI} (hp : RP C σ a w I bl) {id b base z : Nat} (hbl : bl id = some ⟨some b, base, z⟩) {o0 o : Obj} (hg : w.heap[b]? = some o0) (h0 : ∀ c e f, o0 ≠ .cells c e f) (ob : Ob)
    (hob : ObRep (w.putObj b o) I bl id ob) : RP C { σ with heap := σ.heap.set id (some ob) } a (w.putObj b o) I bl := by
  obtain ⟨hlt, hnI, hE⟩ := hp.heap.own id _ b hbl rfl
  have hl := later_putObj (o := o) hg h0 hnI
  obtain ⟨oo, hoo⟩ := hp.heap.live id _ hbl
  have hid : id < σ.heap.length := (List.getElem?_eq_some_iff.1 hoo).1
  refine ⟨hp.defers, hp.env.later hl (fun _ h => h) (fun _ _ h => h), ⟨?_, ?_, hp.heap.apart, ?_, ?_, ?_⟩⟩
  · intro k o' ho
    by_cases hk : k = id
    · subst hk
      simp only [List.getElem?_set_self hid, Option.some.injEq] at ho
      subst ho
      exact hob
    · simp only [List.getElem?_set_ne (Ne.symm hk)] at ho
      refine (hp.heap.obj k o' ho).later hl (fun _ h => h) (fun _ _ h => h) (fun i b' h1 h2 => World.putObj_heap_other fun e => hk ?_) (fun h => h)
      subst e
      exact hp.heap.apart k id i _ b' h1 hbl h2 rfl
  · intro k i h
    by_cases hk : k = id
    · subst hk; exact ⟨ob, by simp only [List.getElem?_set_self hid]⟩
    · obtain ⟨o', ho⟩ := hp.heap.live k i h
      exact ⟨o', by simp only [List.getElem?_set_ne (Ne.symm hk)]; exact ho⟩
  · intro k i b' h1 h2
    obtain ⟨h3, h4, h5⟩ := hp.heap.own k i b' h1 h2
    exact ⟨by simpa using h3, h4, h5⟩
  · intro k hk
    obtain ⟨h1, h2⟩ := hp.heap.imm k hk
    exact ⟨by simpa using h1, h2⟩
  · have hk := hp.heap.kept
    refine ⟨hk.os, hk.tape, hk.output, by simpa using hk.size, fun k h1 h2 => ?_, fun k s hs => (later_putObj (I := fun _ => False) (o := o) hg h0 (fun h => h)).shape k s (hk.shape k s hs)⟩
    rw [World.putObj_heap_other (fun e => by subst e; rcases hE with h | h; exact h2 h; omega)]
    exact hk.block k h1 h2

/-- What stands in a string from a place on: the number, and how many bytes it takes. -/
def dec (s : List UInt8) (pos : Nat) : Nat × Nat := Utf8.decode ⟨s.toArray⟩ pos
def RangeK (C : Ctx) (t : TypeId) (x : V) (K : V → St → Prop) (σ : St) : Prop :=
  match x with
  | .str s => isStr C.P t = true ∧ K (.it (freshIn σ.heap)) { σ with heap := putOb σ.heap (.iter s 0) }
  | _ => False
def NextK (x : V) (isString : Bool) (K : V → St → Prop) (σ : St) : Prop :=
  match x with
  | .it id => isString = true ∧ match σ.heap[id]? with
    | some (some (.iter s pos)) => (pos < s.length → K (.tup [.bool true, .int .i64 pos, .int .i32 (dec s pos).1]) { σ with heap := σ.heap.set id (some (.iter s (pos + (dec s pos).2))) }) ∧ (¬ pos < s.length → K (.tup [.bool false]) σ)
    | _ => False
  | _ => False

theorem range_ok {C : Ctx} {o : Oper} {σ : St} {K : V → St → Prop} {t : TypeId} {x : Operand} (ho : o.op = .range t x) (h : RangeK C t (σ.val x) K σ) : OpOk C o σ K := by
  unfold RangeK at h
  split at h
  · rename_i s hx
    obtain ⟨hs, hk⟩ := h
    refine opOk_value fun a w I bl hp => ?_
    have hv := hp.val x
    rw [hx] at hv
    obtain ⟨p, hp1, rfl, hsz⟩ := hv.inv_str
    refine ⟨.pointer (some ⟨w.heap.size, 0, none⟩), w.alloc (.stringIter p 0), _, _, ?_, hk, (hp.newOb (.stringIter p 0) (.iter p.data.toList 0) 0 ⟨w.heap.size, 0, 0, p, upd_same _ _ _, heap_alloc_new w _, rfl, hsz⟩).relx ?_⟩
    · simp only [execOp, ho, hp1]
      simp [Instr.range, run_underlying (isStr_some hs), newObj, Sem.run]
    · exact .it _ _ 0 0 (upd_same _ _ _)
  · exact h.elim

/-- A variable of the call's own: a strings.Builder (its zero value: a nil pointer, a nil slice) keeps its type. -/
def varOb (t : TypeId) (x : V) : Ob := match x with | .agg [.nilp, .nils] => .bld t (some (1000000, 0)) | x => .row x.cells.length [x]
def AllocQ (C : Ctx) (t : TypeId) (K : V → St → Prop) (σ : St) : Prop :=
  match ZV C.P t with
  | some x => K (.ptr (freshIn σ.heap) 0 0) { σ with heap := putOb σ.heap (varOb t x) }
  | none => False
theorem allocq_ok {C : Ctx} {o : Oper} {σ : St} {K : V → St → Prop} {t : TypeId} (ho : o.op = .alloc t) (h : AllocQ C t K σ) : OpOk C o σ K := by
  unfold AllocQ at h
  split at h
  · rename_i x hx
    by_cases hb : x = .agg [.nilp, .nils]
    · subst hb
      obtain ⟨z, hz, hp0, h1⟩ := zv_some hx
      refine opOk_value fun a w I bl hp => ?_
      obtain ⟨vs, rfl, hl, ho1, hr⟩ := (Rep.pure (bl := bl) _ _ (hp0 w I)).inv_agg
      match vs, hl with
      | [p, v], _ =>
        have e1 : p = .pointer none := (hr 0 p .nilp rfl rfl).inv_nilp
        have e2 : v = .slice none 0 0 := (hr 1 v .nils rfl rfl).inv_nils
        subst e1; subst e2
        have hob : ObRep (w.alloc (.cells #[.pointer none, .slice none 0 0] t)) I (upd bl (freshIn σ.heap) ⟨some w.heap.size, 0, 2⟩) (freshIn σ.heap) (.bld t (some (1000000, 0))) :=
          ⟨w.heap.size, _, _, upd_same _ _ _, heap_alloc_new w _, .inl rfl, rfl, .pure _ _ .nils⟩
        refine ⟨.pointer (some ⟨w.heap.size, 0, none⟩), w.alloc (.cells #[.pointer none, .slice none 0 0] t), _, _, ?_, h, (hp.newOb _ _ 2 hob).relx ?_⟩
        · simp [execOp, ho, Instr.alloc, run_zeroValue hz, newVar, newRow, Value.cells]
        · have := Rep.ptr (w := w.alloc (.cells #[.pointer none, .slice none 0 0] t)) (I := I) (bl := upd bl (freshIn σ.heap) ⟨some w.heap.size, 0, 2⟩) (freshIn σ.heap) 0 0 w.heap.size 0 2 2 t (upd_same _ _ _) (shape_new w _ t)
          simpa using this
    · refine alloc_ok ho ?_
      unfold AllocK
      rw [hx]
      have : varOb t x = .row x.cells.length [x] := by
        unfold varOb
        split
        · exact absurd rfl hb
        · rfl
      simp only
      rw [this] at h
      exact h
  · exact h.elim
theorem next_ok {C : Ctx} {o : Oper} {σ : St} {K : V → St → Prop} {b : Bool} {x : Operand} (ho : o.op = .next x b) (h : NextK (σ.val x) b K σ) : OpOk C o σ K := by
  unfold NextK at h
  split at h
  · rename_i id hx
    obtain ⟨rfl, h⟩ := h
    split at h
    · rename_i s pos hob
      refine opOk_value fun a w I bl hp => ?_
      have hv := hp.val x
      rw [hx] at hv
      obtain ⟨b0, base0, z0, hbl0, hv⟩ := hv.inv_it
      obtain ⟨b, base, z, p, hbl, hg, rfl, hsz⟩ := hp.heap.obj id _ hob
      rw [hbl] at hbl0
      simp only [Option.some.injEq, BI.mk.injEq] at hbl0
      obtain ⟨rfl, rfl, rfl⟩ := hbl0
      have hget : (getObj b).run C.P w = .ok (.stringIter p pos) w := by simp [getObj, Sem.run, hg]
      by_cases hlt : pos < p.size
      · have hset : (setObj b (.stringIter p (pos + (Utf8.decode p pos).2))).run C.P w = .ok () (w.putObj b (.stringIter p (pos + (Utf8.decode p pos).2))) := by simp [setObj, Sem.run, hg, World.putObj]
        refine ⟨.tuple #[.bool true, goInt pos, .int .i32 (Utf8.decode p pos).1], w.putObj b (.stringIter p (pos + (Utf8.decode p pos).2)), _, _, ?_, h.1 hlt, (hp.setOb hbl hg (by simp) (.iter p.data.toList (pos + (Utf8.decode p pos).2)) ⟨b, base, z, p, hbl, World.putObj_heap_same (hp.heap.own id _ b hbl rfl).1, rfl, hsz⟩).relx ?_⟩
        · simp only [execOp, ho, hv]
          simp [itV, Instr.next, hget, hlt, hset]
        · exact .pure _ _ (.tup [.bool true, goInt pos, .int .i32 (Utf8.decode p pos).1] [.bool true, .int .i64 pos, .int .i32 (Utf8.decode p pos).1] rfl (by
            intro i v c hv hc
            match i with
            | 0 => simp at hv hc; subst hv; subst hc; exact .bool _
            | 1 => simp at hv hc; subst hv; subst hc; exact .int _ _
            | 2 => simp at hv hc; subst hv; subst hc; exact .int _ _
            | i + 3 => simp at hv))
      · refine ⟨.tuple #[.bool false], w, _, _, ?_, h.2 hlt, hp.relx ?_⟩
        · simp only [execOp, ho, hv]
          simp [itV, Instr.next, hget, hlt]
        · exact .pure _ _ (.tup [.bool false] [.bool false] rfl (by
            intro i v c hv hc
            match i with
            | 0 => simp at hv hc; subst hv; subst hc; exact .bool _
            | i + 1 => simp at hv))
    · exact h.elim
  · exact h.elim
end Go.Proofs.YtbdogoccjcifnaaDoor
