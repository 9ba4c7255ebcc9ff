/- Pairs of states that are met, walked. No conditions. -/
import Derived.Test.YtmjglpdfkkmcoaaDoorOwn
import Derived.Test.YtmjglpdfkkmcoaaDoorData
import Derived.Tactics
import Derived.MapKept
/-! Maps to ints: made, looked up, stored into; their keys coded. No conditions. -/
set_option linter.unusedSimpArgs false
set_option linter.unusedVariables false
set_option maxRecDepth 100000
namespace Go.Proofs.YtmjglpdfkkmcoaaDoor
open Go.RowKit

/-- What a map answers. -/
def lookM {α : Type} [DecidableEq α] (a : α) : List (α × Int) → Option Int
  | [] => none
  | q :: L => if a = q.1 then some q.2 else lookM a L
/-- How keys of a map are coded, and found. -/
structure KeyOk {α : Type} [DecidableEq α] (P : Program) (t : TypeId) (kV : α → Value) (kA : α → V) : Prop where
  map : ∃ kt vt, P.underlying t = some (.map kt vt) ∧ (∀ w, (zeroValue vt).run P w = .ok (.int .i64 0) w) ∧ (∀ e a w, (Instr.checkKey e 10000 kt (kV a)).run P w = .ok () w) ∧
    ∀ a w (L : List (α × Int)) (es : List MapEntry), es.map (fun e => (e.key, e.val)) = L.map (fun p => (kV p.1, Value.int .i64 p.2)) → ∃ r, (Instr.findKey kt (kV a) es).run P w = .ok r w ∧ r.map (·.2) = ((lookM a L)).map (Value.int .i64)
  rep : ∀ w I bl v a, Rep w I bl v (kA a) → v = kV a
theorem look_cons {α : Type} [DecidableEq α] (a : α) (q : α × Int) (L : List (α × Int)) : lookM a (q :: L) = if a = q.1 then some q.2 else lookM a L := rfl
theorem look_append {α : Type} [DecidableEq α] (a : α) (L M : List (α × Int)) : lookM a (L ++ M) = ((lookM a L)).or ((lookM a M)) := by
  induction L with
  | nil => simp [lookM]
  | cons q L ih =>
    rw [List.cons_append, look_cons, look_cons, ih]
    split <;> simp
theorem asking_ok {P : Program} {α : Type} [DecidableEq α] {kt : TypeId} {kV : α → Value} (heq : ∀ a b w, (Op.equal kt (kV a) (kV b)).run P w = .ok (decide (a = b)) w) (a : α) (w : World) : ∀ (L : List (α × Int)) (es : List MapEntry) (i : Nat),
    es.map (fun e => (e.key, e.val)) = L.map (fun p => (kV p.1, Value.int .i64 p.2)) → ∃ r, (Instr.findAsking kt (kV a) es i).run P w = .ok r w ∧ r.map (·.2) = ((lookM a L)).map (Value.int .i64)
  | [], [], i, _ => ⟨none, by simp [Instr.findAsking], by simp [lookM]⟩
  | [], _ :: _, i, h => by simp at h
  | _ :: _, [], i, h => by simp at h
  | q :: L, e :: es, i, h => by
    simp only [List.map_cons, List.cons.injEq, Prod.mk.injEq] at h
    obtain ⟨⟨h1, h2⟩, h3⟩ := h
    unfold Instr.findAsking
    rw [h1, look_cons]
    by_cases hq : a = q.1
    · exact ⟨some (i, e.val), by simp [heq, hq, Result.andThen], by simp [hq, h2]⟩
    · obtain ⟨r, h4, h5⟩ := asking_ok heq a w L es (i + 1) h3
      exact ⟨r, by simp [heq, hq, Result.andThen, h4], by simp [hq, h5]⟩
theorem now_ok {α : Type} [DecidableEq α] {d : TypeDesc} {kV : α → Value} (heq : ∀ a b, Instr.sameNow d (kV a) (kV b) = some (decide (a = b))) (a : α) : ∀ (L : List (α × Int)) (es : List MapEntry) (i : Nat),
    es.map (fun e => (e.key, e.val)) = L.map (fun p => (kV p.1, Value.int .i64 p.2)) → ∃ r, Instr.findNow d (kV a) es i = some r ∧ r.map (·.2) = ((lookM a L)).map (Value.int .i64)
  | [], [], i, _ => ⟨none, by simp [Instr.findNow], by simp [lookM]⟩
  | [], _ :: _, i, h => by simp at h
  | _ :: _, [], i, h => by simp at h
  | q :: L, e :: es, i, h => by
    simp only [List.map_cons, List.cons.injEq, Prod.mk.injEq] at h
    obtain ⟨⟨h1, h2⟩, h3⟩ := h
    unfold Instr.findNow
    rw [h1, look_cons, heq]
    by_cases hq : a = q.1
    · exact ⟨some (i, e.val), by simp [hq], by simp [hq, h2]⟩
    · obtain ⟨r, h4, h5⟩ := now_ok heq a L es (i + 1) h3
      exact ⟨r, by simp [hq, h4], by simp [hq, h5]⟩
theorem find_by_now {P : Program} {α : Type} [DecidableEq α] {kt : TypeId} {d : TypeDesc} {kV : α → Value} (hd : P.underlying kt = some d) (heq : ∀ a b, Instr.sameNow d (kV a) (kV b) = some (decide (a = b))) (a : α) (w : World) (L : List (α × Int)) (es : List MapEntry)
    (h : es.map (fun e => (e.key, e.val)) = L.map (fun p => (kV p.1, Value.int .i64 p.2))) : ∃ r, (Instr.findKey kt (kV a) es).run P w = .ok r w ∧ r.map (·.2) = ((lookM a L)).map (Value.int .i64) := by
  obtain ⟨r, h1, h2⟩ := now_ok heq a L es 0 h
  exact ⟨r, MapKept.run_findKey hd h1, h2⟩
theorem find_by_asking {P : Program} {α : Type} [DecidableEq α] {kt : TypeId} {d : TypeDesc} {kV : α → Value} (hd : P.underlying kt = some d) (hn : ∀ a b, Instr.sameNow d (kV a) (kV b) = none) (heq : ∀ a b w, (Op.equal kt (kV a) (kV b)).run P w = .ok (decide (a = b)) w)
    (a : α) (w : World) (L : List (α × Int)) (es : List MapEntry) (h : es.map (fun e => (e.key, e.val)) = L.map (fun p => (kV p.1, Value.int .i64 p.2))) : ∃ r, (Instr.findKey kt (kV a) es).run P w = .ok r w ∧ r.map (·.2) = ((lookM a L)).map (Value.int .i64) := by
  match L, es, h with
  | [], [], h => exact ⟨none, by simp [Instr.findKey, run_underlying hd, Instr.findNow, Result.andThen], by simp [lookM]⟩
  | [], _ :: _, h => simp at h
  | _ :: _, [], h => simp at h
  | q :: L, e :: es, h =>
    obtain ⟨r, h1, h2⟩ := asking_ok heq a w (q :: L) (e :: es) 0 h
    refine ⟨r, ?_, h2⟩
    have h3 : e.key = kV q.1 := by simp only [List.map_cons, List.cons.injEq, Prod.mk.injEq] at h; exact h.1.1
    unfold Instr.findKey
    simp only [Sem.run_bind, run_underlying hd, Result.andThen_ok]
    have h4 : Instr.findNow d (kV a) (e :: es) 0 = none := by unfold Instr.findNow; rw [h3, hn]
    rw [h4]
    exact h1
/-- A map, as an object. -/
def mpO {α : Type} (kV : α → Value) (L : List (α × Int)) : Ob := .mp (L.map fun p => (kV p.1, Value.int .i64 p.2))
section
variable {C : Ctx} {α : Type} [DecidableEq α] {t : TypeId} {kV : α → Value} {kA : α → V} {K : V → ES → Prop} {σ : ES}
theorem map_at {a : Act} {w : World} {I : Nat → Prop} {bl : Nat → Option BI} (hp : RP C σ.st a w I bl) {m : Operand} {id : Nat} {es : List (Value × Value)} (hm : σ.val m = .it id) (ho : σ.heap[id]? = some (some (.mp es))) :
    ∃ b z arr clock, bl id = some ⟨some b, 1, z⟩ ∧ w.heap[b]? = some (.map arr clock) ∧ arr.toList.map (fun e => (e.key, e.val)) = es ∧ a.eval m = .map (some b) := by
  have hv := hp.val m
  rw [es_val, hm] at hv
  obtain ⟨b0, base0, z0, hbl0, hv⟩ := hv.inv_it
  obtain ⟨b, _, z, t, hbl, hg, he, _⟩ := hp.heap.obj id _ ho
  rw [hbl] at hbl0
  simp only [Option.some.injEq, BI.mk.injEq] at hbl0
  obtain ⟨rfl, rfl, rfl⟩ := hbl0
  exact ⟨b, z, t.1, t.2, hbl, hg, he, hv⟩
theorem opn_make (h : eNew σ (.mp []) fun id σ => K (.it id) σ) : OpN C (.makeMap t none) K σ :=
  ⟨fun o ho => opOk_value fun a w I bl hp => ⟨.map (some w.heap.size), w.alloc (.map #[] 0), _, _, by
    simp [execOp, ho, Instr.makeMap, newObj, Sem.run], kst (eNew_elim h), (hp.newObB (base := 1) (.map #[] 0) (.mp []) 0 ⟨w.heap.size, 0, 0, (#[], 0), upd_same _ _ _, heap_alloc_new w _, rfl, trivial⟩).relx (.it _ _ 1 0 (upd_same _ _ _))⟩⟩
theorem run_look (hk : KeyOk C.P t kV kA) {w : World} {b : Nat} {arr : Array MapEntry} {clock : Nat} {L : List (α × Int)} (hg : w.heap[b]? = some (.map arr clock)) (he : arr.toList.map (fun e => (e.key, e.val)) = L.map (fun p => (kV p.1, Value.int .i64 p.2))) (x : α) (ok : Bool) :
    (Instr.lookup t (.map (some b)) (kV x) ok).run C.P w = .ok (if ok then .tuple #[.int .i64 (((lookM x L)).getD 0), .bool ((lookM x L)).isSome] else .int .i64 (((lookM x L)).getD 0)) w := by
  obtain ⟨kt, vt, h1, h2, h3, h4⟩ := hk.map
  obtain ⟨r, h5, h6⟩ := h4 x w L arr.toList he
  unfold Instr.lookup
  cases hl : (lookM x L) with
  | none =>
    rw [hl] at h6
    obtain rfl : r = none := by simpa using h6
    simp [run_underlying h1, MapKept.run_getObj_map hg, h3, h5, h2, Result.andThen]
  | some n =>
    rw [hl] at h6
    obtain ⟨i, rfl⟩ : ∃ i, r = some (i, .int .i64 n) := by
      cases r with
      | none => simp at h6
      | some r => obtain ⟨i, v⟩ := r; simp at h6; subst h6; exact ⟨i, rfl⟩
    simp [run_underlying h1, MapKept.run_getObj_map hg, h3, h5, Result.andThen]
theorem opn_look_t (hk : KeyOk C.P t kV kA) {m k : Operand} (id : Nat) (L : List (α × Int)) (x : α) (n : Int) (hm : σ.val m = .it id) (hx : σ.val k = kA x) (ho : σ.heap[id]? = some (some (mpO kV L))) (hl : (lookM x L) = some n)
    (h : K (.tup [.int .i64 n, .bool true]) σ) : OpN C (.lookup t m k true) K σ :=
  ⟨fun o ho' => opOk_pure _ (kst h) fun a w I bl hp => by
    obtain ⟨b, z, arr, clock, _, hg, he, hv⟩ := map_at hp hm ho
    have hkv := hp.val k
    rw [es_val, hx] at hkv
    have hr := run_look hk hg he x true
    rw [hl] at hr
    refine ⟨_, by simp [execOp, ho', hv, hk.rep _ _ _ _ _ hkv, hr], .pure _ _ (.tup [.int .i64 n, .bool true] [.int .i64 n, .bool true] rfl fun i v c hv hc => ?_)⟩
    match i with
    | 0 => simp at hv hc; subst hv; subst hc; exact .int _ _
    | 1 => simp at hv hc; subst hv; subst hc; exact .bool _
    | i + 2 => simp at hv⟩
theorem opn_look_f (hk : KeyOk C.P t kV kA) {m k : Operand} (id : Nat) (L : List (α × Int)) (x : α) (hm : σ.val m = .it id) (hx : σ.val k = kA x) (ho : σ.heap[id]? = some (some (mpO kV L))) (hl : (lookM x L) = none)
    (h : K (.tup [.int .i64 0, .bool false]) σ) : OpN C (.lookup t m k true) K σ :=
  ⟨fun o ho' => opOk_pure _ (kst h) fun a w I bl hp => by
    obtain ⟨b, z, arr, clock, _, hg, he, hv⟩ := map_at hp hm ho
    have hkv := hp.val k
    rw [es_val, hx] at hkv
    have hr := run_look hk hg he x true
    rw [hl] at hr
    refine ⟨_, by simp [execOp, ho', hv, hk.rep _ _ _ _ _ hkv, hr], .pure _ _ (.tup [.int .i64 0, .bool false] [.int .i64 0, .bool false] rfl fun i v c hv hc => ?_)⟩
    match i with
    | 0 => simp at hv hc; subst hv; subst hc; exact .int _ _
    | 1 => simp at hv hc; subst hv; subst hc; exact .bool _
    | i + 2 => simp at hv⟩
theorem opn_look_v (hk : KeyOk C.P t kV kA) {m k : Operand} (id : Nat) (L : List (α × Int)) (x : α) (n : Int) (hm : σ.val m = .it id) (hx : σ.val k = kA x) (ho : σ.heap[id]? = some (some (mpO kV L))) (hl : ((lookM x L)).getD 0 = n)
    (h : K (.int .i64 n) σ) : OpN C (.lookup t m k false) K σ :=
  ⟨fun o ho' => opOk_pure _ (kst h) fun a w I bl hp => by
    obtain ⟨b, z, arr, clock, _, hg, he, hv⟩ := map_at hp hm ho
    have hkv := hp.val k
    rw [es_val, hx] at hkv
    have hr := run_look hk hg he x false
    rw [hl] at hr
    exact ⟨_, by simp [execOp, ho', hv, hk.rep _ _ _ _ _ hkv, hr], .pure _ _ (.int _ _)⟩⟩
/-- A key that is new: it is put behind the others. -/
theorem run_upd (hk : KeyOk C.P t kV kA) {w : World} {b : Nat} {arr : Array MapEntry} {clock : Nat} {L : List (α × Int)} (hg : w.heap[b]? = some (.map arr clock)) (he : arr.toList.map (fun e => (e.key, e.val)) = L.map (fun p => (kV p.1, Value.int .i64 p.2))) (x : α) (v : Value) (hl : (lookM x L) = none) :
    (Instr.mapUpdate t (.map (some b)) (kV x) v).run C.P w = .ok () (w.putObj b (.map (arr.push { key := kV x, val := v, born := clock }) (clock + 1))) := by
  obtain ⟨kt, vt, h1, h2, h3, h4⟩ := hk.map
  obtain ⟨r, h5, h6⟩ := h4 x w L arr.toList he
  rw [hl] at h6
  obtain rfl : r = none := by simpa using h6
  unfold Instr.mapUpdate
  simp [run_underlying h1, MapKept.run_getObj_map hg, h3, h5, MapKept.run_setObj_map _ hg, Result.andThen, World.putObj]
theorem upd_ok (hk : KeyOk C.P t kV kA) {m k y : Operand} (id : Nat) (L : List (α × Int)) (x : α) (n : Int) (hm : σ.val m = .it id) (hx : σ.val k = kA x) (hy : σ.val y = .int .i64 n) (ho : σ.heap[id]? = some (some (mpO kV L))) (hl : (lookM x L) = none)
    (h : K .any ⟨σ.n, σ.u, σ.heap.set id (some (mpO kV (L ++ [(x, n)])))⟩) {o : Oper} (ho' : o.op = .mapUpdate t m k y ∨ o.op = .insert t m k y) : OpOk C o σ.st (Kst K) :=
  opOk_skip fun a w I bl hp => by
    obtain ⟨b, z, arr, clock, hbl, hg, he, hv⟩ := map_at hp hm ho
    have hkv := hp.val k
    rw [es_val, hx] at hkv
    have hyv := hp.val y
    rw [es_val, hy] at hyv
    have hr := run_upd hk hg he x (.int .i64 n) hl
    refine ⟨_, _, ?_, kst h, (hp.setOb hbl hg (by simp) (mpO kV (L ++ [(x, n)])) ⟨b, 0, z, (arr.push { key := kV x, val := .int .i64 n, born := clock }, clock + 1), hbl, World.putObj_heap_same (hp.heap.own id _ b hbl rfl).1, ?_, trivial⟩).rel⟩
    · rcases ho' with ho' | ho' <;> simp [execOp, ho', hv, hk.rep _ _ _ _ _ hkv, hyv.inv_int, hr]
    · simp [he]
theorem opn_upd (hk : KeyOk C.P t kV kA) {m k y : Operand} (id : Nat) (L : List (α × Int)) (x : α) (n : Int) (hm : σ.val m = .it id) (hx : σ.val k = kA x) (hy : σ.val y = .int .i64 n) (ho : σ.heap[id]? = some (some (mpO kV L))) (hl : (lookM x L) = none)
    (h : fH (σ.heap.set id (some (mpO kV (L ++ [(x, n)])))) fun hh => K .any ⟨σ.n, σ.u, hh⟩) : OpN C (.mapUpdate t m k y) K σ :=
  ⟨fun _ ho' => upd_ok hk id L x n hm hx hy ho hl (by rw [fH_eq] at h; exact h) (.inl ho')⟩
theorem opn_ins (hk : KeyOk C.P t kV kA) {m k y : Operand} (id : Nat) (L : List (α × Int)) (x : α) (n : Int) (hm : σ.val m = .it id) (hx : σ.val k = kA x) (hy : σ.val y = .int .i64 n) (ho : σ.heap[id]? = some (some (mpO kV L))) (hl : (lookM x L) = none)
    (h : fH (σ.heap.set id (some (mpO kV (L ++ [(x, n)])))) fun hh => K .any ⟨σ.n, σ.u, hh⟩) : OpN C (.insert t m k y) K σ :=
  ⟨fun _ ho' => upd_ok hk id L x n hm hx hy ho hl (by rw [fH_eq] at h; exact h) (.inr ho')⟩
end
theorem opn_len {C : Ctx} {α : Type} {t : TypeId} {kV : α → Value} {K : V → ES → Prop} {σ : ES} {m : Operand} (id : Nat) (L : List (α × Int)) (hm : σ.val m = .it id) (ho : σ.heap[id]? = some (some (mpO kV L))) (hu : ∃ kt vt, C.P.underlying t = some (.map kt vt))
    (h : K (.int .i64 (L.length : Nat)) σ) : OpN C (.call { callee := .builtin .len, args := #[m], argTypes := #[t] }) K σ :=
  ⟨fun o ho' => opOk_pure _ (kst h) fun a w I bl hp => by
    obtain ⟨b, z, arr, clock, _, hg, he, hv⟩ := map_at hp hm ho
    obtain ⟨kt, vt, hu⟩ := hu
    have hs : arr.size = L.length := by have := congrArg List.length he; simpa using this
    refine ⟨.int .i64 (L.length : Nat), ?_, .pure _ _ (.int _ _)⟩
    simp [execOp, ho', resolve, invoke, builtin, hv, Builtin.len_, run_underlying hu, MapKept.run_getObj_map hg, hs, goInt]⟩
end Go.Proofs.YtmjglpdfkkmcoaaDoor

/-! Two machines, pair by pair: the plain law of AutoSame. No conditions. -/
namespace Go.Proofs.YtmjglpdfkkmcoaaDoor

def stepI (T : List (List Int)) (x : Int) (c : Nat) : Int := if 0 ≤ x then ((T[x.toNat]?.getD [])[c]?).getD (-1) else -1
def finI (F : List Bool) (x : Int) : Bool := decide (0 ≤ x) && (F[x.toNat]?).getD false
def runI (T : List (List Int)) (x : Int) (w : List Nat) : Int := w.foldl (stepI T) x
def wordOk (w : List Nat) : Prop := ∀ c ∈ w, c < 8
/-- The two machines end alike upon every word. -/
def sameW (T1 : List (List Int)) (F1 : List Bool) (T2 : List (List Int)) (F2 : List Bool) : Prop := ∀ w, wordOk w → finI F1 (runI T1 0 w) = finI F2 (runI T2 0 w)
/-- What the pairs met are: reached, and closed. -/
structure Met (T1 T2 : List (List Int)) (L : List (Int × Int)) : Prop where
  first : ((0, 0) : Int × Int) ∈ L
  reached : ∀ p ∈ L, ∃ w, wordOk w ∧ p = (runI T1 0 w, runI T2 0 w)
  closed : ∀ p ∈ L, ∀ c, c < 8 → (stepI T1 p.1 c, stepI T2 p.2 c) ∈ L
theorem met_all {T1 T2 : List (List Int)} {L : List (Int × Int)} (h : Met T1 T2 L) : ∀ (w : List Nat) (p : Int × Int), p ∈ L → wordOk w → (runI T1 p.1 w, runI T2 p.2 w) ∈ L
  | [], p, hp, _ => hp
  | c :: w, p, hp, hw => met_all h w (stepI T1 p.1 c, stepI T2 p.2 c) (h.closed p hp c (hw c (by simp))) (fun d hd => hw d (by simp [hd]))
theorem met_same {T1 T2 : List (List Int)} {F1 F2 : List Bool} {L : List (Int × Int)} (h : Met T1 T2 L) : L.any (fun p => finI F1 p.1 != finI F2 p.2) = false ↔ sameW T1 F1 T2 F2 := by
  constructor
  · intro ha w hw
    have hm := met_all h w (0, 0) h.first hw
    have := List.any_eq_false.1 ha _ hm
    simpa using this
  · intro hs
    refine List.any_eq_false.2 fun p hp => ?_
    obtain ⟨w, hw, rfl⟩ := h.reached p hp
    simp [hs w hw]
/-- A table that is filled: sound, and closed under the rule. -/
structure Tab (next : Nat → Nat → Nat) (fin : Nat → Bool) (n : Nat) (D : Nat → Nat → Bool) : Prop where
  sound : ∀ i k, i < n → k < n → D i k = true → ∃ w, wordOk w ∧ fin (w.foldl next i) ≠ fin (w.foldl next k)
  base : ∀ i k, i < n → k < n → fin i ≠ fin k → D i k = true
  closed : ∀ i k c, i < n → k < n → c < 8 → D (next i c) (next k c) = true → D i k = true
theorem tab_all {next : Nat → Nat → Nat} {fin : Nat → Bool} {n : Nat} {D : Nat → Nat → Bool} (h : Tab next fin n D) (hn : ∀ i c, i < n → c < 8 → next i c < n) :
    ∀ (w : List Nat) (i k : Nat), i < n → k < n → wordOk w → fin (w.foldl next i) ≠ fin (w.foldl next k) → D i k = true
  | [], i, k, hi, hk, _, hf => h.base i k hi hk hf
  | c :: w, i, k, hi, hk, hw, hf => h.closed i k c hi hk (hw c (by simp)) (tab_all h hn w _ _ (hn i c hi (hw c (by simp))) (hn k c hk (hw c (by simp))) (fun d hd => hw d (by simp [hd])) hf)
theorem tab_iff {next : Nat → Nat → Nat} {fin : Nat → Bool} {n : Nat} {D : Nat → Nat → Bool} (h : Tab next fin n D) (hn : ∀ i c, i < n → c < 8 → next i c < n) {i k : Nat} (hi : i < n) (hk : k < n) :
    D i k = false ↔ ∀ w, wordOk w → fin (w.foldl next i) = fin (w.foldl next k) := by
  constructor
  · intro hd w hw
    refine Decidable.byContradiction fun hf => ?_
    have := tab_all h hn w i k hi hk hw hf
    rw [hd] at this
    cases this
  · intro ha
    cases hd : D i k with
    | false => rfl
    | true =>
      obtain ⟨w, hw, hf⟩ := h.sound i k hi hk hd
      exact absurd (ha w hw) hf
end Go.Proofs.YtmjglpdfkkmcoaaDoor

/-! A map whose keys are two ints. No conditions. -/
namespace Go.Proofs.YtmjglpdfkkmcoaaDoor
open Go.RowKit

def pkV (p : Int × Int) : Value := .agg #[.int .i64 p.1, .int .i64 p.2]
def pairA (p : Int × Int) : V := .agg [.int .i64 p.1, .int .i64 p.2]
theorem equal_pair (p q : Int × Int) (w : World) : (Op.equal 69 (pkV p) (pkV q)).run Tryd.prog w = .ok (decide (p = q)) w := by
  have hu : Tryd.prog.underlying 69 = some (.struct (Tryd.prog.fieldsOf 69)) := by kernel_rfl
  unfold Op.equal pkV
  have := run_equalIn_struct (P := Tryd.prog) w 9999 69 #[.int .i64 p.1, .int .i64 p.2] #[.int .i64 q.1, .int .i64 q.2] hu (by kernel_rfl)
  refine this.trans ?_
  have hf : ((Tryd.prog.fieldsOf 69).toList.map fun f => (f.name == "_", f.type, f.offset)) = [(false, 3, 0), (false, 3, 1)] := by kernel_rfl
  generalize (Tryd.prog.fieldsOf 69).toList = l at hf
  match l, hf with
  | [f, g], hf =>
    simp only [List.map_cons, List.map_nil, List.cons.injEq, Prod.mk.injEq, and_true, beq_eq_false_iff_ne] at hf
    obtain ⟨⟨e1, e2, e3⟩, e4, e5, e6⟩ := hf
    have hi := Tryd.underlying3
    have hz : ∀ w, (sizeOf 3).run Tryd.prog w = .ok 1 w := fun w => Tryd.sizeOf3 w
    have ha : ∀ w, (isAgg 3).run Tryd.prog w = .ok false w := fun w => Tryd.isAgg3 w
    have h1 := fun w a b => run_equalIn_int (P := Tryd.prog) w 9998 3 .i64 .i64 a b hi
    simp [Op.eqFields, e1, e2, e3, e4, e5, e6, h1, hz, ha, part, go_sem]
    obtain ⟨a, b⟩ := p
    obtain ⟨c, d⟩ := q
    by_cases h1 : a = c
    · by_cases h2 : b = d
      · simp [h1, h2]
      · simp [h1, h2]
    · simp [h1]
  | [], hf => simp at hf
  | [_], hf => simp at hf
  | _ :: _ :: _ :: _, hf => simp at hf
theorem check_pair (e : Bool) (p : Int × Int) (w : World) : (Instr.checkKey e 10000 69 (pkV p)).run Tryd.prog w = .ok () w := by
  have hu : Tryd.prog.underlying 69 = some (.struct (Tryd.prog.fieldsOf 69)) := by kernel_rfl
  have hf : ((Tryd.prog.fieldsOf 69).toList.map fun f => (f.name == "_", f.type, f.offset)) = [(false, 3, 0), (false, 3, 1)] := by kernel_rfl
  have hi := Tryd.underlying3
  have hz : ∀ w, (sizeOf 3).run Tryd.prog w = .ok 1 w := fun w => Tryd.sizeOf3 w
  have ha : ∀ w, (isAgg 3).run Tryd.prog w = .ok false w := fun w => Tryd.isAgg3 w
  have hc : ∀ (w : World) (a : Int), (Instr.checkKey e 9999 3 (.int .i64 a)).run Tryd.prog w = .ok () w := fun w a => by
    unfold Instr.checkKey
    simp [run_underlying hi, go_sem]
  unfold pkV Instr.checkKey
  simp only [Sem.run_bind, run_underlying hu, Result.andThen_ok]
  rw [← Array.forIn_toList]
  generalize (Tryd.prog.fieldsOf 69).toList = l at hf
  match l, hf with
  | [f, g], hf =>
    simp only [List.map_cons, List.map_nil, List.cons.injEq, Prod.mk.injEq, and_true, beq_eq_false_iff_ne] at hf
    obtain ⟨⟨e1, e2, e3⟩, e4, e5, e6⟩ := hf
    simp [e1, e2, e3, e4, e5, e6, hc, hz, ha, part, go_sem]
  | [], hf => simp at hf
  | [_], hf => simp at hf
  | _ :: _ :: _ :: _, hf => simp at hf
theorem pair_key : KeyOk Tryd.prog 89 pkV pairA where
  map := ⟨69, 3, by kernel_rfl, fun w => Tryd.zeroValue3 w, check_pair, fun a w L es h => find_by_asking (d := .struct (Tryd.prog.fieldsOf 69)) (by kernel_rfl) (fun _ _ => rfl) equal_pair a w L es h⟩
  rep := fun w I bl v a h => by
    obtain ⟨vs, rfl, hl, _, hr⟩ := h.inv_agg
    match vs, hl with
    | [x, y], _ =>
      rw [(hr 0 x _ rfl rfl).inv_int, (hr 1 y _ rfl rfl).inv_int]
      rfl
end Go.Proofs.YtmjglpdfkkmcoaaDoor

/-! auto.May and the document's AutoMay, walked. No conditions. -/
namespace Go.Proofs.YtmjglpdfkkmcoaaDoor
open Go.RowKit

/-- Is x no state of n? -/
def badState (n : Nat) (x : Int) : Bool := decide (x < -1) || decide ((n : Int) ≤ x)
def badRow (n : Nat) (l : List Int) : Bool := decide ((l.length : Int) ≠ 8) || l.any (badState n)
def autoV (T : List (List Int)) (F : List Bool) : V := .agg [.lst (T.map ints), .lst (F.map V.bool)]
def mayOk (T : List (List Int)) (F : List Bool) : Bool := decide (1 ≤ T.length) && decide (T.length ≤ 40) && decide (F.length = T.length) && !(T.any (badRow T.length))

theorem may1 (n : Nat) (x : Int) : Fn1 Tryd.prog 33 [.int .i64 x, .rp [.int .i64 n]] (fun r => r = .bool (badState n x)) := by
  refine fn1E (T := Tryd.tt) Tryd.func33 rfl tt_all follows_all ?_ ?_ fun C hC hE => ?_
  · kernel_rfl
  · exact Nat.le_of_ble_eq_true (by kernel_rfl)
  conv => whnf
  repeat' (first | (refine brd_t (by first | assumption | omega) ?_; conv => whnf) | (refine brd_f (by first | assumption | omega) ?_; conv => whnf) | (refine ask (by first | assumption | omega) ?_; conv => whnf) | (refine fit64 (by omega) ?_; conv => whnf) | (refine fit (by simp only [kmin, kmax]; omega) ?_; conv => whnf) | (refine br_t (by assumption) ?_; conv => whnf) | (refine br_f (by assumption) ?_; conv => whnf) | (refine get_of (by assumption) ?_; conv => whnf) | (refine get_map (by assumption) ?_; conv => whnf) | (refine draw_lex hE ?_ ?_; decide +kernel; conv => whnf) | (refine brd (fun h => ?_) (fun h => ?_) <;> conv => whnf) | (refine br (fun h => ?_) (fun h => ?_) <;> conv => whnf) | (refine ret_now hE ?_; conv => whnf) | (intro hlen; conv => whnf) | (refine seg_here ?_; conv => whnf) | (refine both ?_ ?_ <;> conv => whnf))
  all_goals exact ⟨rfl, by unfold badState; congr 1; simp; omega⟩
theorem indexFunc_45 (l : List Int) (h : FuncId) (caps : List V) (p : Int → Bool) (hb : hasBody Tryd.prog h = true) (hc : nrB caps = true) (hp : ∀ a ∈ l, Fn1 Tryd.prog h ((V.int .i64) a :: caps) (fun r => r = .bool (p a))) :
    Fn1 Tryd.prog 45 [.lst (l.map (V.int .i64)), .fn h caps] (fun r => r = .int .i64 (idxOf p l)) := by
  refine fn1E (T := Tryd.tt) Tryd.func45 rfl tt_all follows_all ?_ ?_ fun C hC hE => ?_
  · kernel_rfl
  · exact Nat.le_of_ble_eq_true (by kernel_rfl)
  conv => whnf
  intro hl
  conv => whnf
  refine loopE (fun k : Nat => ⟨19, [(0, .lst (l.map (V.int .i64))), (1, .fn h caps), (7, .int .i64 (l.map (V.int .i64)).length), (8, .int .i64 k)], []⟩) (fun k => k ≤ l.length ∧ ∀ j < k, ∀ x, l[j]? = some x → p x = false) (fun k => l.length - k) 0 hE ?_ ?_ ?_ ?_
  · kernel_rfl
  · exact at_keep [0, 1, 7, 8] rfl
  · exact ⟨Nat.zero_le _, fun j hj => by omega⟩
  intro k hkj
  obtain ⟨hk, hj⟩ := hkj
  have hlm : (l.map (V.int .i64)).length = l.length := by simp
  by_cases hlt : k < l.length
  · obtain ⟨x, hx⟩ : ∃ x, l[k]? = some x := ⟨_, List.getElem?_eq_getElem hlt⟩
    have hpx := hp x (List.mem_of_getElem? hx)
    conv => whnf
    repeat' (first | (refine brd_t (by first | assumption | omega) ?_; conv => whnf) | (refine brd_f (by first | assumption | omega) ?_; conv => whnf) | (refine ask (by first | assumption | omega) ?_; conv => whnf) | (refine fit64 (by omega) ?_; conv => whnf) | (refine fit (by simp only [kmin, kmax]; omega) ?_; conv => whnf) | (refine br_t (by assumption) ?_; conv => whnf) | (refine br_f (by assumption) ?_; conv => whnf) | (refine get_of (by assumption) ?_; conv => whnf) | (refine get_map (by assumption) ?_; conv => whnf) | (refine call_eq hpx hC hb ?_ ?_ ?_; kernel_rfl; exact nrB_tail (by kernel_rfl) hc; conv => whnf) | (refine draw_lex hE ?_ ?_; decide +kernel; conv => whnf) | (refine brd (fun h => ?_) (fun h => ?_) <;> conv => whnf) | (refine br (fun h => ?_) (fun h => ?_) <;> conv => whnf) | (refine ret_now hE ?_; conv => whnf) | (intro hlen; conv => whnf) | (refine seg_here ?_; conv => whnf) | (refine both ?_ ?_ <;> conv => whnf))
    · exact ⟨rfl, by rw [idxOf_hit hx (by assumption) hj]⟩
    · refine next_keep [0, 1, 7, 8] (k + 1) ⟨hlt, ?_⟩ (by omega) rfl
      intro j hjk y hy
      by_cases e : j = k
      · subst e; rw [hx] at hy; cases hy; assumption
      · exact hj j (by omega) y hy
  · conv => whnf
    repeat' (first | (refine brd_t (by first | assumption | omega) ?_; conv => whnf) | (refine brd_f (by first | assumption | omega) ?_; conv => whnf) | (refine ask (by first | assumption | omega) ?_; conv => whnf) | (refine fit64 (by omega) ?_; conv => whnf) | (refine fit (by simp only [kmin, kmax]; omega) ?_; conv => whnf) | (refine br_t (by assumption) ?_; conv => whnf) | (refine br_f (by assumption) ?_; conv => whnf) | (refine get_of (by assumption) ?_; conv => whnf) | (refine get_map (by assumption) ?_; conv => whnf) | (refine draw_lex hE ?_ ?_; decide +kernel; conv => whnf) | (refine brd (fun h => ?_) (fun h => ?_) <;> conv => whnf) | (refine br (fun h => ?_) (fun h => ?_) <;> conv => whnf) | (refine ret_now hE ?_; conv => whnf) | (intro hlen; conv => whnf) | (refine seg_here ?_; conv => whnf) | (refine both ?_ ?_ <;> conv => whnf))
    exact ⟨rfl, by rw [idxOf_miss (fun x hx => by obtain ⟨j, hj'⟩ := List.mem_iff_getElem?.1 hx; exact hj j (by have := (List.getElem?_eq_some_iff.1 hj').1; omega) x hj')]⟩

theorem containsFunc_36 (l : List Int) (h : FuncId) (caps : List V) (p : Int → Bool) (hb : hasBody Tryd.prog h = true) (hc : nrB caps = true) (hp : ∀ a ∈ l, Fn1 Tryd.prog h ((V.int .i64) a :: caps) (fun r => r = .bool (p a))) :
    Fn1 Tryd.prog 36 [.lst (l.map (V.int .i64)), .fn h caps] (fun r => r = .bool (l.any p)) := by
  have hi := indexFunc_45 l h caps p hb hc hp
  have ha := idxOf_any p l
  refine fn1E (T := Tryd.tt) Tryd.func36 rfl tt_all follows_all ?_ ?_ fun C hC hE => ?_
  · kernel_rfl
  · exact Nat.le_of_ble_eq_true (by kernel_rfl)
  conv => whnf
  repeat' (first | (refine brd_t (by first | assumption | omega) ?_; conv => whnf) | (refine brd_f (by first | assumption | omega) ?_; conv => whnf) | (refine ask (by first | assumption | omega) ?_; conv => whnf) | (refine fit64 (by omega) ?_; conv => whnf) | (refine fit (by simp only [kmin, kmax]; omega) ?_; conv => whnf) | (refine br_t (by assumption) ?_; conv => whnf) | (refine br_f (by assumption) ?_; conv => whnf) | (refine get_of (by assumption) ?_; conv => whnf) | (refine get_map (by assumption) ?_; conv => whnf) | (refine call_eq hi hC hasBody_45 ?_ ?_ ?_; kernel_rfl; exact nrB_fn rfl hc; conv => whnf) | (refine draw_lex hE ?_ ?_; decide +kernel; conv => whnf) | (refine brd (fun h => ?_) (fun h => ?_) <;> conv => whnf) | (refine br (fun h => ?_) (fun h => ?_) <;> conv => whnf) | (refine ret_now hE ?_; conv => whnf) | (intro hlen; conv => whnf) | (refine seg_here ?_; conv => whnf) | (refine both ?_ ?_ <;> conv => whnf))
  all_goals exact ⟨rfl, by rw [← ha]; congr 1; first | exact (decide_eq_true (by assumption)).symm | exact (decide_eq_false (by assumption)).symm⟩

theorem may2 (n : Nat) (l : List Int) : Fn1 Tryd.prog 35 [ints l, .rp [.fn 33 [.rp [.int .i64 n]]]] (fun r => r = .bool (badRow n l)) := by
  have hlm : (l.map (V.int .i64)).length = l.length := by simp
  have hcf := containsFunc_36 l 33 [.rp [.int .i64 n]] (badState n) hasBody_33 rfl (fun q _ => may1 n q)
  obtain ⟨b, hb⟩ : ∃ b, (l.any (badState n)) = b := ⟨_, rfl⟩
  rw [hb] at hcf
  refine fn1E (T := Tryd.tt) Tryd.func35 rfl tt_all follows_all ?_ ?_ fun C hC hE => ?_
  · kernel_rfl
  · exact Nat.le_of_ble_eq_true (by kernel_rfl)
  conv => whnf
  repeat' (first | (refine brd_t (by first | assumption | omega) ?_; conv => whnf) | (refine brd_f (by first | assumption | omega) ?_; conv => whnf) | (refine ask (by first | assumption | omega) ?_; conv => whnf) | (refine fit64 (by omega) ?_; conv => whnf) | (refine fit (by simp only [kmin, kmax]; omega) ?_; conv => whnf) | (refine br_t (by assumption) ?_; conv => whnf) | (refine br_f (by assumption) ?_; conv => whnf) | (refine get_of (by assumption) ?_; conv => whnf) | (refine get_map (by assumption) ?_; conv => whnf) | (refine call_eq (hcf) hC hasBody_36 ?_ ?_ ?_; kernel_rfl; kernel_rfl; conv => whnf) | (refine callq_eq (hcf) hC hasBody_36 ?_ ?_ ?_; kernel_rfl; kernel_rfl; conv => whnf) | (refine draw_lex hE ?_ ?_; decide +kernel; conv => whnf) | (refine brd (fun h => ?_) (fun h => ?_) <;> conv => whnf) | (refine br (fun h => ?_) (fun h => ?_) <;> conv => whnf) | (refine ret_now hE ?_; conv => whnf) | (intro hlen; conv => whnf) | (refine seg_here ?_; conv => whnf) | (refine both ?_ ?_ <;> conv => whnf))
  all_goals exact ⟨rfl, by unfold badRow; rw [hb]; congr 1; simp; first | omega | (simp_all; done) | (simp_all; omega)⟩
theorem indexFunc_44 (l : List (List Int)) (h : FuncId) (caps : List V) (p : (List Int) → Bool) (hb : hasBody Tryd.prog h = true) (hc : nrB caps = true) (hp : ∀ a ∈ l, Fn1 Tryd.prog h (ints a :: caps) (fun r => r = .bool (p a))) :
    Fn1 Tryd.prog 44 [.lst (l.map ints), .fn h caps] (fun r => r = .int .i64 (idxOf p l)) := by
  refine fn1E (T := Tryd.tt) Tryd.func44 rfl tt_all follows_all ?_ ?_ fun C hC hE => ?_
  · kernel_rfl
  · exact Nat.le_of_ble_eq_true (by kernel_rfl)
  conv => whnf
  intro hl
  conv => whnf
  refine loopE (fun k : Nat => ⟨19, [(0, .lst (l.map ints)), (1, .fn h caps), (7, .int .i64 (l.map ints).length), (8, .int .i64 k)], []⟩) (fun k => k ≤ l.length ∧ ∀ j < k, ∀ x, l[j]? = some x → p x = false) (fun k => l.length - k) 0 hE ?_ ?_ ?_ ?_
  · kernel_rfl
  · exact at_keep [0, 1, 7, 8] rfl
  · exact ⟨Nat.zero_le _, fun j hj => by omega⟩
  intro k hkj
  obtain ⟨hk, hj⟩ := hkj
  have hlm : (l.map ints).length = l.length := by simp
  by_cases hlt : k < l.length
  · obtain ⟨x, hx⟩ : ∃ x, l[k]? = some x := ⟨_, List.getElem?_eq_getElem hlt⟩
    have hpx := hp x (List.mem_of_getElem? hx)
    conv => whnf
    repeat' (first | (refine brd_t (by first | assumption | omega) ?_; conv => whnf) | (refine brd_f (by first | assumption | omega) ?_; conv => whnf) | (refine ask (by first | assumption | omega) ?_; conv => whnf) | (refine fit64 (by omega) ?_; conv => whnf) | (refine fit (by simp only [kmin, kmax]; omega) ?_; conv => whnf) | (refine br_t (by assumption) ?_; conv => whnf) | (refine br_f (by assumption) ?_; conv => whnf) | (refine get_of (by assumption) ?_; conv => whnf) | (refine get_map (by assumption) ?_; conv => whnf) | (refine call_eq hpx hC hb ?_ ?_ ?_; kernel_rfl; exact nrB_tail (by kernel_rfl) hc; conv => whnf) | (refine draw_lex hE ?_ ?_; decide +kernel; conv => whnf) | (refine brd (fun h => ?_) (fun h => ?_) <;> conv => whnf) | (refine br (fun h => ?_) (fun h => ?_) <;> conv => whnf) | (refine ret_now hE ?_; conv => whnf) | (intro hlen; conv => whnf) | (refine seg_here ?_; conv => whnf) | (refine both ?_ ?_ <;> conv => whnf))
    · exact ⟨rfl, by rw [idxOf_hit hx (by assumption) hj]⟩
    · refine next_keep [0, 1, 7, 8] (k + 1) ⟨hlt, ?_⟩ (by omega) rfl
      intro j hjk y hy
      by_cases e : j = k
      · subst e; rw [hx] at hy; cases hy; assumption
      · exact hj j (by omega) y hy
  · conv => whnf
    repeat' (first | (refine brd_t (by first | assumption | omega) ?_; conv => whnf) | (refine brd_f (by first | assumption | omega) ?_; conv => whnf) | (refine ask (by first | assumption | omega) ?_; conv => whnf) | (refine fit64 (by omega) ?_; conv => whnf) | (refine fit (by simp only [kmin, kmax]; omega) ?_; conv => whnf) | (refine br_t (by assumption) ?_; conv => whnf) | (refine br_f (by assumption) ?_; conv => whnf) | (refine get_of (by assumption) ?_; conv => whnf) | (refine get_map (by assumption) ?_; conv => whnf) | (refine draw_lex hE ?_ ?_; decide +kernel; conv => whnf) | (refine brd (fun h => ?_) (fun h => ?_) <;> conv => whnf) | (refine br (fun h => ?_) (fun h => ?_) <;> conv => whnf) | (refine ret_now hE ?_; conv => whnf) | (intro hlen; conv => whnf) | (refine seg_here ?_; conv => whnf) | (refine both ?_ ?_ <;> conv => whnf))
    exact ⟨rfl, by rw [idxOf_miss (fun x hx => by obtain ⟨j, hj'⟩ := List.mem_iff_getElem?.1 hx; exact hj j (by have := (List.getElem?_eq_some_iff.1 hj').1; omega) x hj')]⟩

theorem containsFunc_34 (l : List (List Int)) (h : FuncId) (caps : List V) (p : (List Int) → Bool) (hb : hasBody Tryd.prog h = true) (hc : nrB caps = true) (hp : ∀ a ∈ l, Fn1 Tryd.prog h (ints a :: caps) (fun r => r = .bool (p a))) :
    Fn1 Tryd.prog 34 [.lst (l.map ints), .fn h caps] (fun r => r = .bool (l.any p)) := by
  have hi := indexFunc_44 l h caps p hb hc hp
  have ha := idxOf_any p l
  refine fn1E (T := Tryd.tt) Tryd.func34 rfl tt_all follows_all ?_ ?_ fun C hC hE => ?_
  · kernel_rfl
  · exact Nat.le_of_ble_eq_true (by kernel_rfl)
  conv => whnf
  repeat' (first | (refine brd_t (by first | assumption | omega) ?_; conv => whnf) | (refine brd_f (by first | assumption | omega) ?_; conv => whnf) | (refine ask (by first | assumption | omega) ?_; conv => whnf) | (refine fit64 (by omega) ?_; conv => whnf) | (refine fit (by simp only [kmin, kmax]; omega) ?_; conv => whnf) | (refine br_t (by assumption) ?_; conv => whnf) | (refine br_f (by assumption) ?_; conv => whnf) | (refine get_of (by assumption) ?_; conv => whnf) | (refine get_map (by assumption) ?_; conv => whnf) | (refine call_eq hi hC hasBody_44 ?_ ?_ ?_; kernel_rfl; exact nrB_fn rfl hc; conv => whnf) | (refine draw_lex hE ?_ ?_; decide +kernel; conv => whnf) | (refine brd (fun h => ?_) (fun h => ?_) <;> conv => whnf) | (refine br (fun h => ?_) (fun h => ?_) <;> conv => whnf) | (refine ret_now hE ?_; conv => whnf) | (intro hlen; conv => whnf) | (refine seg_here ?_; conv => whnf) | (refine both ?_ ?_ <;> conv => whnf))
  all_goals exact ⟨rfl, by rw [← ha]; congr 1; first | exact (decide_eq_true (by assumption)).symm | exact (decide_eq_false (by assumption)).symm⟩

set_option maxHeartbeats 8000000 in
theorem may (T : List (List Int)) (F : List Bool) : Fn1 Tryd.prog 22 [autoV T F] (fun r => r = .bool (mayOk T F)) := by
  have hTm : (T.map ints).length = T.length := by simp
  have hFm : (F.map V.bool).length = F.length := by simp
  have hcf := containsFunc_34 T 35 [.rp [.fn 33 [.rp [.int .i64 T.length]]]] (badRow T.length) hasBody_35 rfl (fun q _ => may2 T.length q)
  obtain ⟨b, hb⟩ : ∃ b, (T.any (badRow T.length)) = b := ⟨_, rfl⟩
  rw [hb] at hcf
  refine fn1E (T := Tryd.tt) Tryd.func22 rfl tt_all follows_all ?_ ?_ fun C hC hE => ?_
  · kernel_rfl
  · exact Nat.le_of_ble_eq_true (by kernel_rfl)
  conv => whnf
  repeat' (first | (refine brd_t (by first | assumption | omega) ?_; conv => whnf) | (refine brd_f (by first | assumption | omega) ?_; conv => whnf) | (refine ask (by first | assumption | omega) ?_; conv => whnf) | (refine fit64 (by omega) ?_; conv => whnf) | (refine fit (by simp only [kmin, kmax]; omega) ?_; conv => whnf) | (refine br_t (by assumption) ?_; conv => whnf) | (refine br_f (by assumption) ?_; conv => whnf) | (refine get_of (by assumption) ?_; conv => whnf) | (refine get_map (by assumption) ?_; conv => whnf) | (refine call_up (up_freeze 1 (z := 1) (els := [.int .i64 (T.map ints).length]) rfl ?_ (up_freeze 2 (z := 1) (els := [.fn 33 [.rp [.int .i64 (T.map ints).length]]]) rfl ?_ (up_here ?_))); exact ⟨trivial, trivial⟩; exact ⟨⟨trivial, trivial⟩, trivial⟩; conv => whnf) | (refine call_as hcf hC hasBody_34 ?_ ?_ ?_ ?_; (rw [← hTm]; rfl); kernel_rfl; kernel_rfl; conv => whnf) | (refine draw_lex hE ?_ ?_; decide +kernel; conv => whnf) | (refine brd (fun h => ?_) (fun h => ?_) <;> conv => whnf) | (refine br (fun h => ?_) (fun h => ?_) <;> conv => whnf) | (refine ret_now hE ?_; conv => whnf) | (intro hlen; conv => whnf) | (refine seg_here ?_; conv => whnf) | (refine both ?_ ?_ <;> conv => whnf))
  all_goals refine ⟨rfl, ?_⟩
  all_goals first
    | (have h1 : ¬ 1 ≤ T.length := by omega
       simp [mayOk, h1]; done)
    | (have h1 : ¬ T.length ≤ 40 := by omega
       simp [mayOk, h1]; done)
    | (have h1 : ¬ F.length = T.length := by omega
       simp [mayOk, h1]; done)
    | (have h1 : 1 ≤ T.length := by omega
       have h2 : T.length ≤ 40 := by omega
       have h3 : F.length = T.length := by omega
       simp only [mayOk, h1, h2, h3, decide_true, Bool.true_and, hb]
       congr 1
       simp_all; done)
    | trace_state
/-! ### The document's answer -/
theorem bad_any {n : Nat} {l : List Int} (h : ∀ j < l.length, ∀ x, l[j]? = some x → badState n x = false) : l.any (badState n) = false := by
  rw [List.any_eq_false]
  intro x hx
  obtain ⟨j, hj⟩ := List.mem_iff_getElem?.1 hx
  rw [h j (List.getElem?_eq_some_iff.1 hj).1 x hj]
  simp
set_option maxHeartbeats 8000000 in
theorem auto_may (T : List (List Int)) (F : List Bool) : Fn1 Tryd.prog 26 [autoV T F] (fun r => r = .bool (mayOk T F)) := by
  have hTm : (T.map ints).length = T.length := by simp
  have hFm : (F.map V.bool).length = F.length := by simp
  refine fn1E (T := Tryd.tt) Tryd.func26 rfl tt_all follows_all ?_ ?_ fun C hC hE => ?_
  · kernel_rfl
  · exact Nat.le_of_ble_eq_true (by kernel_rfl)
  conv => whnf
  repeat' (first | (refine brd_t (by first | assumption | omega) ?_; conv => whnf) | (refine brd_f (by first | assumption | omega) ?_; conv => whnf) | (refine ask (by first | assumption | omega) ?_; conv => whnf) | (refine fit64 (by omega) ?_; conv => whnf) | (refine fit (by simp only [kmin, kmax]; omega) ?_; conv => whnf) | (refine br_t (by assumption) ?_; conv => whnf) | (refine br_f (by assumption) ?_; conv => whnf) | (refine get_of (by assumption) ?_; conv => whnf) | (refine get_map (by assumption) ?_; conv => whnf) | (refine draw_lex hE ?_ ?_; decide +kernel; conv => whnf) | (refine brd (fun h => ?_) (fun h => ?_) <;> conv => whnf) | (refine br (fun h => ?_) (fun h => ?_) <;> conv => whnf) | (refine ret_now hE ?_; conv => whnf) | (intro hlen; conv => whnf) | (refine seg_here ?_; conv => whnf) | (refine both ?_ ?_ <;> conv => whnf))
  · exact ⟨rfl, by have h1 : ¬ 1 ≤ T.length := by omega
                   simp [mayOk, h1]⟩
  · exact ⟨rfl, by have h1 : ¬ T.length ≤ 40 := by omega
                   simp [mayOk, h1]⟩
  rotate_left
  · exact ⟨rfl, by have h1 : ¬ F.length = T.length := by omega
                   simp [mayOk, h1]⟩
  have h1 : 1 ≤ T.length := by omega
  have h2 : T.length ≤ 40 := by omega
  have h3 : F.length = T.length := by omega
  have hmay : mayOk T F = !(T.any (badRow T.length)) := by simp [mayOk, h1, h2, h3]
  refine loopE (fun k : Nat => ⟨53, [(1, .rp [.lst (T.map ints), .lst (F.map V.bool)]), (27, .lst (T.map ints)), (28, .int .i64 (T.map ints).length), (29, .int .i64 k)], [none]⟩) (fun k => k ≤ T.length ∧ ∀ j < k, ∀ r, T[j]? = some r → badRow T.length r = false) (fun k => T.length - k) 0 hE ?_ ?_ ⟨Nat.zero_le _, fun j hj => by omega⟩ ?_
  · kernel_rfl
  · refine up_freeze 0 (z := 2) (els := [autoV T F]) rfl ⟨⟨trivial, trivial, trivial⟩, trivial⟩ (at_keep [1, 27, 28, 29] ?_)
    conv => whnf
    rfl
  intro k hk
  obtain ⟨hk, hj⟩ := hk
  by_cases hlt : k < T.length
  · obtain ⟨row, hx⟩ : ∃ x, T[k]? = some x := ⟨_, List.getElem?_eq_getElem hlt⟩
    have hrm : (row.map (V.int .i64)).length = row.length := by simp
    conv => whnf
    repeat' (first | (refine brd_t (by first | assumption | omega) ?_; conv => whnf) | (refine brd_f (by first | assumption | omega) ?_; conv => whnf) | (refine ask (by first | assumption | omega) ?_; conv => whnf) | (refine fit64 (by omega) ?_; conv => whnf) | (refine fit (by simp only [kmin, kmax]; omega) ?_; conv => whnf) | (refine br_t (by assumption) ?_; conv => whnf) | (refine br_f (by assumption) ?_; conv => whnf) | (refine get_of (by assumption) ?_; conv => whnf) | (refine get_map (by assumption) ?_; conv => whnf) | (refine draw_lex hE ?_ ?_; decide +kernel; conv => whnf) | (refine brd (fun h => ?_) (fun h => ?_) <;> conv => whnf) | (refine br (fun h => ?_) (fun h => ?_) <;> conv => whnf) | (refine ret_now hE ?_; conv => whnf) | (intro hlen; conv => whnf) | (refine seg_here ?_; conv => whnf) | (refine both ?_ ?_ <;> conv => whnf))
    rotate_left
    · refine ⟨rfl, ?_⟩
      have hb : badRow T.length row = true := by simp [badRow]; omega
      rw [hmay, List.any_eq_true.2 ⟨row, List.mem_of_getElem? hx, hb⟩]
      rfl
    have h8 : row.length = 8 := by omega
    refine loopE (fun j : Nat => ⟨53, [(1, .rp [.lst (T.map ints), .lst (F.map V.bool)]), (27, .lst (T.map ints)), (28, .int .i64 (T.map ints).length), (29, .int .i64 k), (36, ints row), (37, .int .i64 (row.map (V.int .i64)).length), (38, .int .i64 j)], [none]⟩) (fun j => j ≤ row.length ∧ ∀ i < j, ∀ x, row[i]? = some x → badState T.length x = false) (fun j => row.length - j) 0 hE ?_ ?_ ⟨Nat.zero_le _, fun i hi => by omega⟩ ?_
    · kernel_rfl
    · exact at_keep [1, 27, 28, 29, 36, 37, 38] rfl
    intro j hk2
    obtain ⟨hjk, hji⟩ := hk2
    by_cases hjl : j < row.length
    · obtain ⟨x, hxj⟩ : ∃ x, row[j]? = some x := ⟨_, List.getElem?_eq_getElem hjl⟩
      conv => whnf
      repeat' (first | (refine brd_t (by first | assumption | omega) ?_; conv => whnf) | (refine brd_f (by first | assumption | omega) ?_; conv => whnf) | (refine ask (by first | assumption | omega) ?_; conv => whnf) | (refine fit64 (by omega) ?_; conv => whnf) | (refine fit (by simp only [kmin, kmax]; omega) ?_; conv => whnf) | (refine br_t (by assumption) ?_; conv => whnf) | (refine br_f (by assumption) ?_; conv => whnf) | (refine get_of (by assumption) ?_; conv => whnf) | (refine get_map (by assumption) ?_; conv => whnf) | (refine draw_lex hE ?_ ?_; decide +kernel; conv => whnf) | (refine brd (fun h => ?_) (fun h => ?_) <;> conv => whnf) | (refine br (fun h => ?_) (fun h => ?_) <;> conv => whnf) | (refine ret_now hE ?_; conv => whnf) | (intro hlen; conv => whnf) | (refine seg_here ?_; conv => whnf) | (refine both ?_ ?_ <;> conv => whnf))
      all_goals first
        | (have hbx : badState T.length x = true := by unfold badState; simp; omega
           have hb : badRow T.length row = true := by unfold badRow; rw [List.any_eq_true.2 ⟨x, List.mem_of_getElem? hxj, hbx⟩]; simp
           refine ⟨rfl, ?_⟩
           rw [hmay, List.any_eq_true.2 ⟨row, List.mem_of_getElem? hx, hb⟩]
           rfl)
        | (refine next_keep [1, 27, 28, 29, 36, 37, 38] (j + 1) ⟨hjl, fun i hij y hy => ?_⟩ (by omega) rfl
           by_cases e : i = j
           · subst e
             rw [hxj] at hy
             cases hy
             unfold badState
             simp
             omega
           · exact hji i (by omega) y hy)
    · conv => whnf
      repeat' (first | (refine brd_t (by first | assumption | omega) ?_; conv => whnf) | (refine brd_f (by first | assumption | omega) ?_; conv => whnf) | (refine ask (by first | assumption | omega) ?_; conv => whnf) | (refine fit64 (by omega) ?_; conv => whnf) | (refine fit (by simp only [kmin, kmax]; omega) ?_; conv => whnf) | (refine br_t (by assumption) ?_; conv => whnf) | (refine br_f (by assumption) ?_; conv => whnf) | (refine get_of (by assumption) ?_; conv => whnf) | (refine get_map (by assumption) ?_; conv => whnf) | (refine draw_lex hE ?_ ?_; decide +kernel; conv => whnf) | (refine brd (fun h => ?_) (fun h => ?_) <;> conv => whnf) | (refine br (fun h => ?_) (fun h => ?_) <;> conv => whnf) | (refine ret_now hE ?_; conv => whnf) | (intro hlen; conv => whnf) | (refine seg_here ?_; conv => whnf) | (refine both ?_ ?_ <;> conv => whnf))
      have hb : badRow T.length row = false := by
        unfold badRow
        rw [bad_any (fun i hi x hx => hji i (by omega) x hx)]
        simp [h8]
      refine next_keep [1, 27, 28, 29] (k + 1) ⟨hlt, fun i hik r hr => ?_⟩ (by omega) rfl
      by_cases e : i = k
      · subst e; rw [hx] at hr; cases hr; exact hb
      · exact hj i (by omega) r hr
  · conv => whnf
    repeat' (first | (refine brd_t (by first | assumption | omega) ?_; conv => whnf) | (refine brd_f (by first | assumption | omega) ?_; conv => whnf) | (refine ask (by first | assumption | omega) ?_; conv => whnf) | (refine fit64 (by omega) ?_; conv => whnf) | (refine fit (by simp only [kmin, kmax]; omega) ?_; conv => whnf) | (refine br_t (by assumption) ?_; conv => whnf) | (refine br_f (by assumption) ?_; conv => whnf) | (refine get_of (by assumption) ?_; conv => whnf) | (refine get_map (by assumption) ?_; conv => whnf) | (refine draw_lex hE ?_ ?_; decide +kernel; conv => whnf) | (refine brd (fun h => ?_) (fun h => ?_) <;> conv => whnf) | (refine br (fun h => ?_) (fun h => ?_) <;> conv => whnf) | (refine ret_now hE ?_; conv => whnf) | (intro hlen; conv => whnf) | (refine seg_here ?_; conv => whnf) | (refine both ?_ ?_ <;> conv => whnf))
    refine ⟨rfl, ?_⟩
    rw [hmay, List.any_eq_false.2]
    · rfl
    · intro r hr
      obtain ⟨j, hj'⟩ := List.mem_iff_getElem?.1 hr
      rw [hj j (by have := (List.getElem?_eq_some_iff.1 hj').1; omega) r hj']
      simp
end Go.Proofs.YtmjglpdfkkmcoaaDoor

/-! Two machines side by side: final, step and Same's test, walked. No conditions. -/
namespace Go.Proofs.YtmjglpdfkkmcoaaDoor
open Go.RowKit

/-- A state of a machine of n states, or none. -/
def stOk (n : Nat) (x : Int) : Prop := -1 ≤ x ∧ x < n
theorem may_parts {T : List (List Int)} {F : List Bool} (h : mayOk T F = true) : 1 ≤ T.length ∧ T.length ≤ 40 ∧ F.length = T.length ∧ ∀ r ∈ T, r.length = 8 ∧ ∀ x ∈ r, stOk T.length x := by
  simp [mayOk] at h
  refine ⟨h.1.1.1, h.1.1.2, h.1.2, fun r hr => ?_⟩
  have := h.2 r hr
  unfold badRow at this
  simp at this
  refine ⟨by omega, fun x hx => ?_⟩
  have := this.2 x hx
  simp [badState] at this
  exact ⟨by omega, by omega⟩
theorem may_row {T : List (List Int)} {F : List Bool} (h : mayOk T F = true) {x : Int} (hx : stOk T.length x) (h0 : 0 ≤ x) {c : Nat} (hc : c < 8) : ∃ row to, T[x.toNat]? = some row ∧ row.length = 8 ∧ row[c]? = some to ∧ stOk T.length to ∧ stepI T x c = to := by
  obtain ⟨_, _, _, hr⟩ := may_parts h
  obtain ⟨h1, h2⟩ := hx
  obtain ⟨row, hrow⟩ : ∃ y, T[x.toNat]? = some y := ⟨_, List.getElem?_eq_getElem (by omega)⟩
  obtain ⟨h8, hs⟩ := hr row (List.mem_of_getElem? hrow)
  obtain ⟨to, hto⟩ : ∃ y, row[c]? = some y := ⟨_, List.getElem?_eq_getElem (by omega)⟩
  exact ⟨row, to, hrow, h8, hto, hs to (List.mem_of_getElem? hto), by simp [stepI, h0, hrow, hto]⟩
theorem step_ok {T : List (List Int)} {F : List Bool} (h : mayOk T F = true) {x : Int} (hx : stOk T.length x) {c : Nat} (hc : c < 8) : stOk T.length (stepI T x c) := by
  by_cases h0 : 0 ≤ x
  · obtain ⟨_, _, _, _, _, hs, e⟩ := may_row h hx h0 hc
    rw [e]; exact hs
  · unfold stepI
    rw [if_neg h0]
    exact ⟨by omega, by omega⟩
set_option maxHeartbeats 4000000 in
theorem final_prog {T : List (List Int)} {F : List Bool} (h : mayOk T F = true) {x : Int} (hx : stOk T.length x) : Fn1 Tryd.prog 24 [autoV T F, .int .i64 x] (fun r => r = .bool (finI F x)) := by
  obtain ⟨h1, h40, hF, _⟩ := may_parts h
  obtain ⟨hx1, hx2⟩ := id hx
  have hFm : (F.map V.bool).length = F.length := by simp
  by_cases h0 : 0 ≤ x
  · obtain ⟨b, hb⟩ : ∃ y, F[x.toNat]? = some y := ⟨_, List.getElem?_eq_getElem (by omega)⟩
    have e : finI F x = b := by simp [finI, h0, hb]
    rw [e]
    unfold autoV
    refine fn1E (T := Tryd.tt) Tryd.func24 rfl tt_all follows_all ?_ ?_ fun C hC hE => ?_
    · kernel_rfl
    · exact Nat.le_of_ble_eq_true (by kernel_rfl)
    conv => whnf
    repeat' (first | (refine brd_t (by first | assumption | omega) ?_; conv => whnf) | (refine brd_f (by first | assumption | omega) ?_; conv => whnf) | (refine ask (by first | assumption | omega) ?_; conv => whnf) | (refine fit64 (by omega) ?_; conv => whnf) | (refine fit (by simp only [kmin, kmax]; omega) ?_; conv => whnf) | (refine br_t (by assumption) ?_; conv => whnf) | (refine br_f (by assumption) ?_; conv => whnf) | (refine get_of (by assumption) ?_; conv => whnf) | (refine get_map (by assumption) ?_; conv => whnf) | (refine draw_lex hE ?_ ?_; decide +kernel; conv => whnf) | (refine brd (fun h => ?_) (fun h => ?_) <;> conv => whnf) | (refine br (fun h => ?_) (fun h => ?_) <;> conv => whnf) | (refine ret_now hE ?_; conv => whnf) | (intro hlen; conv => whnf) | (refine seg_here ?_; conv => whnf) | (refine both ?_ ?_ <;> conv => whnf))
    all_goals exact ⟨rfl, by simp_all⟩
  · have e : finI F x = false := by simp [finI, h0]
    rw [e]
    unfold autoV
    refine fn1E (T := Tryd.tt) Tryd.func24 rfl tt_all follows_all ?_ ?_ fun C hC hE => ?_
    · kernel_rfl
    · exact Nat.le_of_ble_eq_true (by kernel_rfl)
    conv => whnf
    repeat' (first | (refine brd_t (by first | assumption | omega) ?_; conv => whnf) | (refine brd_f (by first | assumption | omega) ?_; conv => whnf) | (refine ask (by first | assumption | omega) ?_; conv => whnf) | (refine fit64 (by omega) ?_; conv => whnf) | (refine fit (by simp only [kmin, kmax]; omega) ?_; conv => whnf) | (refine br_t (by assumption) ?_; conv => whnf) | (refine br_f (by assumption) ?_; conv => whnf) | (refine get_of (by assumption) ?_; conv => whnf) | (refine get_map (by assumption) ?_; conv => whnf) | (refine draw_lex hE ?_ ?_; decide +kernel; conv => whnf) | (refine brd (fun h => ?_) (fun h => ?_) <;> conv => whnf) | (refine br (fun h => ?_) (fun h => ?_) <;> conv => whnf) | (refine ret_now hE ?_; conv => whnf) | (intro hlen; conv => whnf) | (refine seg_here ?_; conv => whnf) | (refine both ?_ ?_ <;> conv => whnf))
    all_goals exact ⟨rfl, rfl⟩
set_option maxHeartbeats 4000000 in
theorem step_prog {T1 T2 : List (List Int)} {F1 F2 : List Bool} (h1 : mayOk T1 F1 = true) (h2 : mayOk T2 F2 = true) {x y : Int} (hx : stOk T1.length x) (hy : stOk T2.length y) {c : Nat} (hc : c < 8) :
    Fn1 Tryd.prog 37 [pairA (x, y), autoV T1 F1, autoV T2 F2, .int .i64 c] (fun r => r = pairA (stepI T1 x c, stepI T2 y c)) := by
  have hm1 : (T1.map ints).length = T1.length := by simp
  have hm2 : (T2.map ints).length = T2.length := by simp
  unfold pairA autoV
  by_cases hx0 : 0 ≤ x
  · obtain ⟨r1, t1, hr1, h81, ht1, _, e1⟩ := may_row h1 hx hx0 hc
    have hl1 : (r1.map (V.int .i64)).length = r1.length := by simp
    obtain ⟨hxa, hxb⟩ := hx
    rw [e1]
    by_cases hy0 : 0 ≤ y
    · obtain ⟨r2, t2, hr2, h82, ht2, _, e2⟩ := may_row h2 hy hy0 hc
      have hl2 : (r2.map (V.int .i64)).length = r2.length := by simp
      obtain ⟨hya, hyb⟩ := hy
      rw [e2]
      refine fn1E (T := Tryd.tt) Tryd.func37 rfl tt_all follows_all ?_ ?_ fun C hC hE => ?_
      · kernel_rfl
      · exact Nat.le_of_ble_eq_true (by kernel_rfl)
      conv => whnf
      repeat' (first | (refine brd_t (by first | assumption | omega) ?_; conv => whnf) | (refine brd_f (by first | assumption | omega) ?_; conv => whnf) | (refine ask (by first | assumption | omega) ?_; conv => whnf) | (refine fit64 (by omega) ?_; conv => whnf) | (refine fit (by simp only [kmin, kmax]; omega) ?_; conv => whnf) | (refine br_t (by assumption) ?_; conv => whnf) | (refine br_f (by assumption) ?_; conv => whnf) | (refine get_of (by assumption) ?_; conv => whnf) | (refine get_map (by assumption) ?_; conv => whnf) | (refine draw_lex hE ?_ ?_; decide +kernel; conv => whnf) | (refine brd (fun h => ?_) (fun h => ?_) <;> conv => whnf) | (refine br (fun h => ?_) (fun h => ?_) <;> conv => whnf) | (refine ret_now hE ?_; conv => whnf) | (intro hlen; conv => whnf) | (refine seg_here ?_; conv => whnf) | (refine both ?_ ?_ <;> conv => whnf))
      all_goals exact ⟨rfl, rfl⟩
    · have e2 : stepI T2 y c = -1 := by simp [stepI, hy0]
      rw [e2]
      refine fn1E (T := Tryd.tt) Tryd.func37 rfl tt_all follows_all ?_ ?_ fun C hC hE => ?_
      · kernel_rfl
      · exact Nat.le_of_ble_eq_true (by kernel_rfl)
      conv => whnf
      repeat' (first | (refine brd_t (by first | assumption | omega) ?_; conv => whnf) | (refine brd_f (by first | assumption | omega) ?_; conv => whnf) | (refine ask (by first | assumption | omega) ?_; conv => whnf) | (refine fit64 (by omega) ?_; conv => whnf) | (refine fit (by simp only [kmin, kmax]; omega) ?_; conv => whnf) | (refine br_t (by assumption) ?_; conv => whnf) | (refine br_f (by assumption) ?_; conv => whnf) | (refine get_of (by assumption) ?_; conv => whnf) | (refine get_map (by assumption) ?_; conv => whnf) | (refine draw_lex hE ?_ ?_; decide +kernel; conv => whnf) | (refine brd (fun h => ?_) (fun h => ?_) <;> conv => whnf) | (refine br (fun h => ?_) (fun h => ?_) <;> conv => whnf) | (refine ret_now hE ?_; conv => whnf) | (intro hlen; conv => whnf) | (refine seg_here ?_; conv => whnf) | (refine both ?_ ?_ <;> conv => whnf))
      all_goals exact ⟨rfl, rfl⟩
  · have e1 : stepI T1 x c = -1 := by simp [stepI, hx0]
    rw [e1]
    by_cases hy0 : 0 ≤ y
    · obtain ⟨r2, t2, hr2, h82, ht2, _, e2⟩ := may_row h2 hy hy0 hc
      have hl2 : (r2.map (V.int .i64)).length = r2.length := by simp
      obtain ⟨hya, hyb⟩ := hy
      rw [e2]
      refine fn1E (T := Tryd.tt) Tryd.func37 rfl tt_all follows_all ?_ ?_ fun C hC hE => ?_
      · kernel_rfl
      · exact Nat.le_of_ble_eq_true (by kernel_rfl)
      conv => whnf
      repeat' (first | (refine brd_t (by first | assumption | omega) ?_; conv => whnf) | (refine brd_f (by first | assumption | omega) ?_; conv => whnf) | (refine ask (by first | assumption | omega) ?_; conv => whnf) | (refine fit64 (by omega) ?_; conv => whnf) | (refine fit (by simp only [kmin, kmax]; omega) ?_; conv => whnf) | (refine br_t (by assumption) ?_; conv => whnf) | (refine br_f (by assumption) ?_; conv => whnf) | (refine get_of (by assumption) ?_; conv => whnf) | (refine get_map (by assumption) ?_; conv => whnf) | (refine draw_lex hE ?_ ?_; decide +kernel; conv => whnf) | (refine brd (fun h => ?_) (fun h => ?_) <;> conv => whnf) | (refine br (fun h => ?_) (fun h => ?_) <;> conv => whnf) | (refine ret_now hE ?_; conv => whnf) | (intro hlen; conv => whnf) | (refine seg_here ?_; conv => whnf) | (refine both ?_ ?_ <;> conv => whnf))
      all_goals exact ⟨rfl, rfl⟩
    · have e2 : stepI T2 y c = -1 := by simp [stepI, hy0]
      rw [e2]
      refine fn1E (T := Tryd.tt) Tryd.func37 rfl tt_all follows_all ?_ ?_ fun C hC hE => ?_
      · kernel_rfl
      · exact Nat.le_of_ble_eq_true (by kernel_rfl)
      conv => whnf
      repeat' (first | (refine brd_t (by first | assumption | omega) ?_; conv => whnf) | (refine brd_f (by first | assumption | omega) ?_; conv => whnf) | (refine ask (by first | assumption | omega) ?_; conv => whnf) | (refine fit64 (by omega) ?_; conv => whnf) | (refine fit (by simp only [kmin, kmax]; omega) ?_; conv => whnf) | (refine br_t (by assumption) ?_; conv => whnf) | (refine br_f (by assumption) ?_; conv => whnf) | (refine get_of (by assumption) ?_; conv => whnf) | (refine get_map (by assumption) ?_; conv => whnf) | (refine draw_lex hE ?_ ?_; decide +kernel; conv => whnf) | (refine brd (fun h => ?_) (fun h => ?_) <;> conv => whnf) | (refine br (fun h => ?_) (fun h => ?_) <;> conv => whnf) | (refine ret_now hE ?_; conv => whnf) | (intro hlen; conv => whnf) | (refine seg_here ?_; conv => whnf) | (refine both ?_ ?_ <;> conv => whnf))
      all_goals exact ⟨rfl, rfl⟩
end Go.Proofs.YtmjglpdfkkmcoaaDoor

/-! Pairs of states that are met, walked. No conditions. -/
namespace Go.Proofs.YtmjglpdfkkmcoaaDoor
open Go.RowKit

def rowA (l : List Int) : V := .agg (l.map (V.int .i64))
theorem look_mem {α : Type} [DecidableEq α] {a : α} {n : Int} : ∀ {M : List (α × Int)}, (lookM a M) = some n → ∃ j : Nat, M[j]? = some (a, n)
  | [], h => by simp [lookM] at h
  | q :: M, h => by
    rw [look_cons] at h
    split at h
    · rename_i e
      cases h
      exact ⟨0, by rw [e]; rfl⟩
    · obtain ⟨j, hj⟩ := look_mem h
      exact ⟨j + 1, by simpa using hj⟩
theorem look_no {α : Type} [DecidableEq α] {a : α} : ∀ {M : List (α × Int)}, (lookM a M) = none → a ∉ M.map (·.1)
  | [], _ => by simp
  | q :: M, h => by
    rw [look_cons] at h
    split at h
    · cases h
    · rename_i e
      have := look_no h
      simp only [List.map_cons, List.mem_cons, not_or]
      exact ⟨e, this⟩
theorem nodup_below : ∀ (n : Nat) (l : List Nat), l.Nodup → (∀ x ∈ l, x < n) → l.length ≤ n
  | 0, l, _, h => by
    cases l with
    | nil => simp
    | cons x l => exact absurd (h x (by simp)) (by omega)
  | n + 1, l, hd, h => by
    by_cases hm : n ∈ l
    · have h1 := nodup_below n (l.erase n) (hd.erase n) (fun x hx => by
        have h2 := h x (List.mem_of_mem_erase hx)
        have h3 : x ≠ n := fun e => by subst e; exact (List.Nodup.not_mem_erase hd) hx
        omega)
      rw [List.length_erase_of_mem hm] at h1
      omega
    · have := nodup_below n l hd (fun x hx => by
        have h2 := h x hx
        have h3 : x ≠ n := fun e => by subst e; exact hm hx
        omega)
      omega
/-- What the pairs met are, so far: each in its place, none twice, all of them states and reached. -/
structure PInv (T1 T2 : List (List Int)) (M : List ((Int × Int) × Int)) : Prop where
  idx : ∀ (j : Nat) (q : (Int × Int) × Int), M[j]? = some q → q.2 = (j : Int)
  nodup : (M.map (·.1)).Nodup
  ok : ∀ p ∈ M.map (·.1), stOk T1.length p.1 ∧ stOk T2.length p.2
  reached : ∀ p ∈ M.map (·.1), ∃ w, wordOk w ∧ p = (runI T1 0 w, runI T2 0 w)
  first : (M.map (·.1))[0]? = some (0, 0)
def leads (T1 T2 : List (List Int)) (M : List ((Int × Int) × Int)) (j c : Nat) (k : Int) : Prop := ∃ (n : Nat) (p : Int × Int), k = n ∧ (M.map (·.1))[j]? = some p ∧ (M.map (·.1))[n]? = some (stepI T1 p.1 c, stepI T2 p.2 c)
theorem PInv.start {T1 T2 : List (List Int)} (h1 : 1 ≤ T1.length) (h2 : 1 ≤ T2.length) : PInv T1 T2 [((0, 0), 0)] where
  idx := fun j q h => by
    match j, h with
    | 0, h => cases h; rfl
    | j + 1, h => simp at h
  nodup := by simp
  ok := fun p hp => by simp at hp; subst hp; exact ⟨⟨by omega, by show (0 : Int) < T1.length; omega⟩, ⟨by omega, by show (0 : Int) < T2.length; omega⟩⟩
  reached := fun p hp => by simp at hp; subst hp; exact ⟨[], by simp [wordOk], rfl⟩
  first := rfl
theorem PInv.bound {T1 T2 : List (List Int)} {M : List ((Int × Int) × Int)} (h : PInv T1 T2 M) (h1 : T1.length ≤ 40) (h2 : T2.length ≤ 40) : M.length ≤ 1681 := by
  have := nodup_below 1681 ((M.map (·.1)).map fun p => ((p.1 + 1) * 41 + (p.2 + 1)).toNat) ?_ ?_
  · simpa using this
  · refine List.Pairwise.map _ ?_ (List.Pairwise.and_mem.1 h.nodup)
    rintro p q ⟨hp, hq, hne⟩ e
    obtain ⟨⟨a1, a2⟩, a3, a4⟩ := h.ok p hp
    obtain ⟨⟨b1, b2⟩, b3, b4⟩ := h.ok q hq
    apply hne
    obtain ⟨p1, p2⟩ := p
    obtain ⟨q1, q2⟩ := q
    simp only at a1 a2 a3 a4 b1 b2 b3 b4 e
    have e1 : p1 = q1 := by omega
    have e2 : p2 = q2 := by omega
    rw [e1, e2]
  · intro x hx
    obtain ⟨p, hp, rfl⟩ := List.mem_map.1 hx
    obtain ⟨⟨a1, a2⟩, a3, a4⟩ := h.ok p hp
    obtain ⟨p1, p2⟩ := p
    simp only at a1 a2 a3 a4 ⊢
    omega
theorem runI_snoc (T : List (List Int)) (x : Int) (w : List Nat) (c : Nat) : runI T x (w ++ [c]) = stepI T (runI T x w) c := by simp [runI]
theorem PInv.push {T1 T2 : List (List Int)} {F1 F2 : List Bool} (m1 : mayOk T1 F1 = true) (m2 : mayOk T2 F2 = true) {M : List ((Int × Int) × Int)} (h : PInv T1 T2 M) {j c : Nat} {p : Int × Int} (hj : (M.map (·.1))[j]? = some p) (hc : c < 8)
    (hl : lookM (stepI T1 p.1 c, stepI T2 p.2 c) M = none) : PInv T1 T2 (M ++ [((stepI T1 p.1 c, stepI T2 p.2 c), (M.length : Int))]) where
  idx := fun i q hq => by
    rw [List.getElem?_append] at hq
    split at hq
    · exact h.idx i q hq
    · rename_i hi
      obtain ⟨rfl, hq2⟩ : i = M.length ∧ q = ((stepI T1 p.1 c, stepI T2 p.2 c), (M.length : Int)) := by
        match hk : i - M.length with
        | 0 => rw [hk] at hq; cases hq; exact ⟨by omega, rfl⟩
        | k + 1 => rw [hk] at hq; simp at hq
      rw [hq2]
  nodup := by
    rw [List.map_append]
    refine List.nodup_append.2 ⟨h.nodup, by simp, ?_⟩
    intro a ha b hb
    simp at hb
    subst hb
    intro e
    subst e
    exact look_no hl ha
  ok := fun q hq => by
    rw [List.map_append, List.mem_append] at hq
    rcases hq with hq | hq
    · exact h.ok q hq
    · simp at hq
      subst hq
      obtain ⟨o1, o2⟩ := h.ok p (List.mem_of_getElem? hj)
      exact ⟨step_ok m1 o1 hc, step_ok m2 o2 hc⟩
  reached := fun q hq => by
    rw [List.map_append, List.mem_append] at hq
    rcases hq with hq | hq
    · exact h.reached q hq
    · simp at hq
      subst hq
      obtain ⟨w, hw, e⟩ := h.reached p (List.mem_of_getElem? hj)
      refine ⟨w ++ [c], ?_, ?_⟩
      · intro d hd
        rw [List.mem_append] at hd
        rcases hd with hd | hd
        · exact hw d hd
        · simp at hd; subst hd; exact hc
      · rw [runI_snoc, runI_snoc, e]
  first := by
    rw [List.map_append, List.getElem?_append_left]
    · exact h.first
    · exact (List.getElem?_eq_some_iff.1 h.first).1
theorem leads_push {T1 T2 : List (List Int)} {M X : List ((Int × Int) × Int)} {j c : Nat} {k : Int} (h : leads T1 T2 M j c k) : leads T1 T2 (M ++ X) j c k := by
  obtain ⟨n, p, e, h1, h2⟩ := h
  refine ⟨n, p, e, ?_, ?_⟩
  · rw [List.map_append, List.getElem?_append_left (List.getElem?_eq_some_iff.1 h1).1]; exact h1
  · rw [List.map_append, List.getElem?_append_left (List.getElem?_eq_some_iff.1 h2).1]; exact h2
theorem leads_known {T1 T2 : List (List Int)} {M : List ((Int × Int) × Int)} (h : PInv T1 T2 M) {j c : Nat} {p : Int × Int} (hj : (M.map (·.1))[j]? = some p) {n : Int} (hl : lookM (stepI T1 p.1 c, stepI T2 p.2 c) M = some n) : leads T1 T2 M j c n := by
  obtain ⟨i, hi⟩ := look_mem hl
  exact ⟨i, p, h.idx i _ hi, hj, by rw [List.getElem?_map, hi]; rfl⟩
theorem leads_new {T1 T2 : List (List Int)} {M : List ((Int × Int) × Int)} {j c : Nat} {p : Int × Int} (hj : (M.map (·.1))[j]? = some p) (k : Int) : leads T1 T2 (M ++ [((stepI T1 p.1 c, stepI T2 p.2 c), k)]) j c (M.length : Int) := by
  refine ⟨M.length, p, rfl, ?_, ?_⟩
  · rw [List.map_append, List.getElem?_append_left (List.getElem?_eq_some_iff.1 hj).1]; exact hj
  · rw [List.map_append, List.getElem?_append_right (by simp)]
    simp
/-- The pairs met, and where each leads. -/
structure Pairs (T1 T2 : List (List Int)) (M : List ((Int × Int) × Int)) (N : List (List Int)) : Prop where
  inv : PInv T1 T2 M
  len : N.length = M.length
  rows : ∀ (j : Nat) (r : List Int), N[j]? = some r → r.length = 8 ∧ ∀ (c : Nat) (k : Int), r[c]? = some k → leads T1 T2 M j c k
theorem Pairs.met {T1 T2 : List (List Int)} {M : List ((Int × Int) × Int)} {N : List (List Int)} (h : Pairs T1 T2 M N) : Met T1 T2 (M.map (·.1)) where
  first := List.mem_of_getElem? h.inv.first
  reached := h.inv.reached
  closed := fun p hp c hc => by
    obtain ⟨j, hj⟩ := List.mem_iff_getElem?.1 hp
    have hlt : j < M.length := by have := (List.getElem?_eq_some_iff.1 hj).1; simpa using this
    obtain ⟨r, hr⟩ : ∃ r, N[j]? = some r := ⟨_, List.getElem?_eq_getElem (by rw [h.len]; exact hlt)⟩
    obtain ⟨h8, hk⟩ := h.rows j r hr
    obtain ⟨k, hkc⟩ : ∃ k, r[c]? = some k := ⟨_, List.getElem?_eq_getElem (by omega)⟩
    obtain ⟨n, q, _, h2, h3⟩ := hk c k hkc
    rw [hj] at h2
    cases h2
    exact List.mem_of_getElem? h3
theorem len8 {α : Type} {l : List α} (h : l.length = 8) : ∃ a b c d e f g i, l = [a, b, c, d, e, f, g, i] := by
  match l, h with
  | [a, b, c, d, e, f, g, i], _ => exact ⟨a, b, c, d, e, f, g, i, rfl⟩
theorem nr_pairs : ∀ L : List (Int × Int), nrL (L.map pairA)
  | [] => trivial
  | p :: L => ⟨⟨trivial, trivial, trivial⟩, nr_pairs L⟩
theorem nr_i64' : ∀ L : List Int, nrL (L.map (V.int .i64))
  | [] => trivial
  | x :: L => ⟨trivial, nr_i64' L⟩
theorem nr_rowA : ∀ N : List (List Int), nrL (N.map rowA)
  | [] => trivial
  | r :: N => ⟨nr_i64' r, nr_rowA N⟩
def litP (q : Int × Int) : List V := List.take 1 (List.drop 0 [V.agg [V.int .i64 q.1, V.int .i64 q.2]])
theorem app_row (M : List ((Int × Int) × Int)) (a b : Int) : List.take M.length (List.drop 0 (List.map pairA (List.map (fun x => x.1) M))) ++ List.take 1 (List.drop 0 [V.agg [V.int .i64 (a, b).1, V.int .i64 (a, b).2]]) = List.map pairA (List.map (fun x => x.1) (M ++ [((a, b), (M.length : Int))])) := by
  rw [List.drop_zero, List.take_of_length_le (by simp), List.map_append, List.map_append]
  rfl
theorem app_len (M : List ((Int × Int) × Int)) (a b : Int) : M.length + (List.take 1 (List.drop 0 [V.agg [V.int .i64 (a, b).1, V.int .i64 (a, b).2]])).length = (M ++ [((a, b), (M.length : Int))]).length := by
  rw [List.length_append]
  rfl
theorem app_rowN (N : List (List Int)) (a0 a1 a2 a3 a4 a5 a6 a7 : Int) : List.take N.length (List.drop 0 (List.map rowA N)) ++ List.take 1 (List.drop 0 [V.agg [V.int .i64 a0, V.int .i64 a1, V.int .i64 a2, V.int .i64 a3, V.int .i64 a4, V.int .i64 a5, V.int .i64 a6, V.int .i64 a7]]) = List.map rowA (N ++ [[a0, a1, a2, a3, a4, a5, a6, a7]]) := by
  rw [List.drop_zero, List.take_of_length_le (by simp), List.map_append]
  rfl
theorem app_lenN (N : List (List Int)) (a0 a1 a2 a3 a4 a5 a6 a7 : Int) : N.length + (List.take 1 (List.drop 0 [V.agg [V.int .i64 a0, V.int .i64 a1, V.int .i64 a2, V.int .i64 a3, V.int .i64 a4, V.int .i64 a5, V.int .i64 a6, V.int .i64 a7]])).length = (N ++ [[a0, a1, a2, a3, a4, a5, a6, a7]]).length := by
  rw [List.length_append]
  rfl
set_option maxHeartbeats 8000000 in
theorem pairs_prog {T1 T2 : List (List Int)} {F1 F2 : List Bool} (m1 : mayOk T1 F1 = true) (m2 : mayOk T2 F2 = true) :
    Fn1 Tryd.prog 23 [autoV T1 F1, autoV T2 F2] (fun r => ∃ M N, r = .tup [.lst ((M.map (·.1)).map pairA), .lst (N.map rowA)] ∧ Pairs T1 T2 M N) := by
  obtain ⟨h1, h40, hF, _⟩ := may_parts m1
  obtain ⟨h1', h40', hF', _⟩ := may_parts m2
  unfold autoV
  refine fn1E (T := Tryd.tt) Tryd.func23 rfl tt_all follows_all ?_ ?_ fun C hC hE => ?_
  · kernel_rfl
  · exact Nat.le_of_ble_eq_true (by kernel_rfl)
  conv => whnf
  repeat' (first | (refine brd_t (by first | assumption | omega) ?_; conv => whnf) | (refine brd_f (by first | assumption | omega) ?_; conv => whnf) | (refine ask (by first | assumption | omega) ?_; conv => whnf) | (refine fit64 (by omega) ?_; conv => whnf) | (refine fit (by simp only [kmin, kmax]; omega) ?_; conv => whnf) | (refine br_t (by assumption) ?_; conv => whnf) | (refine br_f (by assumption) ?_; conv => whnf) | (refine get_of (by assumption) ?_; conv => whnf) | (refine get_map (by assumption) ?_; conv => whnf) | (refine opn_make ?_; conv => whnf) | (refine opn_ins (kV := pkV) (kA := pairA) (by rw [hC]; exact pair_key) 2 [] (0, 0) 0 rfl rfl rfl rfl rfl ?_; conv => whnf) | (refine draw_lex hE ?_ ?_; decide +kernel; conv => whnf) | (refine draw_any hE [⟨1, [(0, none), (1, none), (2, none), (3, none), (4, none), (5, none), (6, none), (7, none), (8, some 0)], some 9, [], [[]], []⟩] ?_ ?_; decide +kernel; conv => whnf) | (refine brd (fun h => ?_) (fun h => ?_) <;> conv => whnf) | (refine br (fun h => ?_) (fun h => ?_) <;> conv => whnf) | (refine ret_now hE ?_; conv => whnf) | (intro hlen; conv => whnf) | (refine seg_here ?_; conv => whnf) | (refine both ?_ ?_ <;> conv => whnf))
  refine loopE (fun ((i, M, N) : Nat × List ((Int × Int) × Int) × List (List Int)) => ⟨64, [(2, .rp [.lst (T1.map ints), .lst (F1.map V.bool)]), (3, .rp [.lst (T2.map ints), .lst (F2.map V.bool)]), (6, .it 2), (7, .sl 3 0 M.length), (8, .sl 0 0 N.length), (9, .int .i64 i)],
      [some (.row 8 (N.map rowA)), none, some (mpO pkV M), some (.row 2 ((M.map (·.1)).map pairA))]⟩)
    (fun (i, M, N) => PInv T1 T2 M ∧ i ≤ M.length ∧ N.length = i ∧ ∀ (j : Nat) (r : List Int), N[j]? = some r → r.length = 8 ∧ ∀ (c : Nat) (k : Int), r[c]? = some k → leads T1 T2 M j c k)
    (fun (i, _, _) => 1682 - i) (0, [((0, 0), 0)], []) hE ?_ ?_ ⟨PInv.start h1 h1', Nat.zero_le _, rfl, fun j r h => by simp at h⟩ ?_
  · kernel_rfl
  · refine up_freeze 0 (z := 2) (els := [autoV T1 F1]) rfl ⟨⟨trivial, trivial, trivial⟩, trivial⟩ (up_freeze 1 (z := 2) (els := [autoV T2 F2]) rfl ⟨⟨trivial, trivial, trivial⟩, trivial⟩ (up_own 8 8 rfl rfl (at_keep [2, 3, 6, 7, 8, 9] ?_)))
    conv => whnf
    rfl
  rintro ⟨i, M, N⟩ ⟨hI, hi, hN, hR⟩
  have hb := hI.bound h40 h40'
  have hml : ((M.map (·.1)).map pairA).length = M.length := by simp
  have hnl : (N.map rowA).length = N.length := by simp
  by_cases hlt : i < M.length
  · obtain ⟨p, hp⟩ : ∃ p, (M.map (·.1))[i]? = some p := ⟨_, List.getElem?_eq_getElem (by simpa using hlt)⟩
    obtain ⟨hx, hy⟩ := hI.ok p (List.mem_of_getElem? hp)
    conv => whnf
    repeat' (first | (refine brd_t (by first | assumption | omega) ?_; conv => whnf) | (refine brd_f (by first | assumption | omega) ?_; conv => whnf) | (refine ask (by first | assumption | omega) ?_; conv => whnf) | (refine fit64 (by omega) ?_; conv => whnf) | (refine fit (by simp only [kmin, kmax]; omega) ?_; conv => whnf) | (refine br_t (by assumption) ?_; conv => whnf) | (refine br_f (by assumption) ?_; conv => whnf) | (refine get_of (by assumption) ?_; conv => whnf) | (refine get_map (by assumption) ?_; conv => whnf) | (refine draw_lex hE ?_ ?_; decide +kernel; conv => whnf) | (refine draw_any hE [⟨1, [(0, none), (1, none), (2, none), (3, none), (4, none), (5, none), (6, none), (7, none), (8, some 0)], some 9, [], [[]], []⟩] ?_ ?_; decide +kernel; conv => whnf) | (refine brd (fun h => ?_) (fun h => ?_) <;> conv => whnf) | (refine br (fun h => ?_) (fun h => ?_) <;> conv => whnf) | (refine ret_now hE ?_; conv => whnf) | (intro hlen; conv => whnf) | (refine seg_here ?_; conv => whnf) | (refine both ?_ ?_ <;> conv => whnf))
    refine loopE (fun ((c, M, R) : Nat × List ((Int × Int) × Int) × List Int) => ⟨64, [(2, .rp [.lst (T1.map ints), .lst (F1.map V.bool)]), (3, .rp [.lst (T2.map ints), .lst (F2.map V.bool)]), (6, .it 2), (7, .sl 3 0 M.length), (8, .sl 0 0 N.length), (9, .int .i64 i), (10, .ptr 1 0 0), (26, .int .i64 c)],
        [some (.row 8 (N.map rowA)), some (.row 8 [rowA R]), some (mpO pkV M), some (.row 2 ((M.map (·.1)).map pairA))]⟩)
      (fun (c, M, R) => PInv T1 T2 M ∧ c ≤ 8 ∧ (M.map (·.1))[i]? = some p ∧ R.length = 8 ∧ (∀ (d : Nat) (k : Int), d < c → R[d]? = some k → leads T1 T2 M i d k) ∧ ∀ (j : Nat) (r : List Int), N[j]? = some r → r.length = 8 ∧ ∀ (c : Nat) (k : Int), r[c]? = some k → leads T1 T2 M j c k)
      (fun (c, _, _) => 8 - c) (0, M, [0, 0, 0, 0, 0, 0, 0, 0]) hE ?_ ?_ ⟨hI, by omega, hp, rfl, fun d k h => by omega, hR⟩ ?_
    · kernel_rfl
    · refine at_keep [2, 3, 6, 7, 8, 9, 10, 26] ?_
      conv => whnf
      rfl
    rintro ⟨c, M, R⟩ ⟨hI, hc, hp, hRl, hRk, hR⟩
    have hb := hI.bound h40 h40'
    have hml : ((M.map (·.1)).map pairA).length = M.length := by simp
    have hil : i < M.length := by have := (List.getElem?_eq_some_iff.1 hp).1; simpa using this
    have hrl : (R.map (V.int .i64)).length = R.length := by simp
    obtain ⟨a0, a1, a2, a3, a4, a5, a6, a7, rfl⟩ := len8 hRl
    have hpp : ((M.map (·.1)).map pairA)[0 + Int.toNat (i : Int)]? = some (pairA p) := by rw [Nat.zero_add, Int.toNat_natCast, List.getElem?_map, hp]; rfl
    by_cases hc8 : c < 8
    · have hst := step_prog m1 m2 hx hy hc8
      cases hl : lookM (stepI T1 p.1 c, stepI T2 p.2 c) M with
      | some n =>
        have hkn := leads_known hI hp hl
        have hnew : ∀ (d : Nat) (k : Int), d < c + 1 → ([a0, a1, a2, a3, a4, a5, a6, a7].set c n)[d]? = some k → leads T1 T2 M i d k := by
          intro d k hd hk
          rw [List.getElem?_set] at hk
          split at hk
          · rename_i e; subst e; rw [if_pos (by simpa using hc8)] at hk; cases hk; exact hkn
          · exact hRk d k (by omega) hk
        obtain rfl | rfl | rfl | rfl | rfl | rfl | rfl | rfl : c = 0 ∨ c = 1 ∨ c = 2 ∨ c = 3 ∨ c = 4 ∨ c = 5 ∨ c = 6 ∨ c = 7 := by omega
        all_goals
          conv => whnf
          repeat' (first | (refine brd_t (by first | assumption | omega) ?_; conv => whnf) | (refine brd_f (by first | assumption | omega) ?_; conv => whnf) | (refine ask (by first | assumption | omega) ?_; conv => whnf) | (refine fit64 (by omega) ?_; conv => whnf) | (refine fit (by simp only [kmin, kmax]; omega) ?_; conv => whnf) | (refine br_t (by assumption) ?_; conv => whnf) | (refine br_f (by assumption) ?_; conv => whnf) | (refine get_of (by assumption) ?_; conv => whnf) | (refine get_map (by assumption) ?_; conv => whnf) | (refine get_of hpp ?_; conv => whnf) | (refine call_eq (hst) hC hasBody_37 ?_ ?_ ?_; kernel_rfl; kernel_rfl; conv => whnf) | (refine callq_eq (hst) hC hasBody_37 ?_ ?_ ?_; kernel_rfl; kernel_rfl; conv => whnf) | (refine opn_look_t (kV := pkV) (kA := pairA) (by rw [hC]; exact pair_key) 2 M (stepI T1 p.1 _, stepI T2 p.2 _) n rfl rfl rfl hl ?_; conv => whnf) | (refine draw_lex hE ?_ ?_; decide +kernel; conv => whnf) | (refine draw_any hE [⟨1, [(0, none), (1, none), (2, none), (3, none), (4, none), (5, none), (6, none), (7, none), (8, some 0)], some 9, [], [[]], []⟩] ?_ ?_; decide +kernel; conv => whnf) | (refine brd (fun h => ?_) (fun h => ?_) <;> conv => whnf) | (refine br (fun h => ?_) (fun h => ?_) <;> conv => whnf) | (refine ret_now hE ?_; conv => whnf) | (intro hlen; conv => whnf) | (refine seg_here ?_; conv => whnf) | (refine both ?_ ?_ <;> conv => whnf))
          refine next_drop [2, 3, 6, 7, 8, 9, 10, 26] [4] (_, M, List.set [a0, a1, a2, a3, a4, a5, a6, a7] _ n) ⟨hI, ?_, hp, ?_, hnew, hR⟩ ?_ ?_
          · omega
          · simp
          · show 8 - _ < 8 - _; omega
          conv => whnf
          rw [kill_nrL _ (nr_rowA N), kill_nrL _ (nr_pairs _)]
          rfl
      | none =>
        have hI' := hI.push m1 m2 hp hc8 hl
        have hkn := leads_new (T1 := T1) (T2 := T2) (c := c) hp (M.length : Int)
        have hp' : ((M ++ [((stepI T1 p.1 c, stepI T2 p.2 c), (M.length : Int))]).map (·.1))[i]? = some p := by rw [List.map_append, List.getElem?_append_left (List.getElem?_eq_some_iff.1 hp).1]; exact hp
        have hnew : ∀ (d : Nat) (k : Int), d < c + 1 → ([a0, a1, a2, a3, a4, a5, a6, a7].set c (M.length : Int))[d]? = some k → leads T1 T2 (M ++ [((stepI T1 p.1 c, stepI T2 p.2 c), (M.length : Int))]) i d k := by
          intro d k hd hk
          rw [List.getElem?_set] at hk
          split at hk
          · rename_i e; subst e; rw [if_pos (by simpa using hc8)] at hk; cases hk; exact hkn
          · exact leads_push (hRk d k (by omega) hk)
        have hR' : ∀ (j : Nat) (r : List Int), N[j]? = some r → r.length = 8 ∧ ∀ (d : Nat) (k : Int), r[d]? = some k → leads T1 T2 (M ++ [((stepI T1 p.1 c, stepI T2 p.2 c), (M.length : Int))]) j d k := fun j r hr => ⟨(hR j r hr).1, fun d k hk => leads_push ((hR j r hr).2 d k hk)⟩
        obtain rfl | rfl | rfl | rfl | rfl | rfl | rfl | rfl : c = 0 ∨ c = 1 ∨ c = 2 ∨ c = 3 ∨ c = 4 ∨ c = 5 ∨ c = 6 ∨ c = 7 := by omega
        all_goals
          conv => whnf
          repeat' (first | (refine brd_t (by first | assumption | omega) ?_; conv => whnf) | (refine brd_f (by first | assumption | omega) ?_; conv => whnf) | (refine ask (by first | assumption | omega) ?_; conv => whnf) | (refine fit64 (by omega) ?_; conv => whnf) | (refine fit (by simp only [kmin, kmax]; omega) ?_; conv => whnf) | (refine br_t (by assumption) ?_; conv => whnf) | (refine br_f (by assumption) ?_; conv => whnf) | (refine get_of (by assumption) ?_; conv => whnf) | (refine get_map (by assumption) ?_; conv => whnf) | (refine get_of hpp ?_; conv => whnf) | (refine call_eq (hst) hC hasBody_37 ?_ ?_ ?_; kernel_rfl; kernel_rfl; conv => whnf) | (refine callq_eq (hst) hC hasBody_37 ?_ ?_ ?_; kernel_rfl; kernel_rfl; conv => whnf) | (refine opn_look_f (kV := pkV) (kA := pairA) (by rw [hC]; exact pair_key) 2 M (stepI T1 p.1 _, stepI T2 p.2 _) rfl rfl rfl hl ?_; conv => whnf) | (refine opn_upd (kV := pkV) (kA := pairA) (by rw [hC]; exact pair_key) 2 M (stepI T1 p.1 _, stepI T2 p.2 _) M.length rfl rfl rfl rfl hl ?_; conv => whnf) | (refine ask (Nat.le_refl 1) ?_; conv => whnf) | (refine ask ⟨?_, ?_, ?_⟩ ?_; (simp <;> omega); (show _ + 1 ≤ 9223372036854775807; omega); (show (_ + 1) * 16 ≤ 140737488355328; omega); conv => whnf) | (refine draw_lex hE ?_ ?_; decide +kernel; conv => whnf) | (refine draw_any hE [⟨1, [(0, none), (1, none), (2, none), (3, none), (4, none), (5, none), (6, none), (7, none), (8, some 0)], some 9, [], [[]], []⟩] ?_ ?_; decide +kernel; conv => whnf) | (refine brd (fun h => ?_) (fun h => ?_) <;> conv => whnf) | (refine br (fun h => ?_) (fun h => ?_) <;> conv => whnf) | (refine ret_now hE ?_; conv => whnf) | (intro hlen; conv => whnf) | (refine seg_here ?_; conv => whnf) | (refine both ?_ ?_ <;> conv => whnf))
          refine next_drop [2, 3, 6, 7, 8, 9, 10, 26] [4, 5] (_, M ++ [((stepI T1 p.1 _, stepI T2 p.2 _), (M.length : Int))], List.set [a0, a1, a2, a3, a4, a5, a6, a7] _ (M.length : Int)) ⟨hI', ?_, hp', ?_, hnew, hR'⟩ ?_ ?_
          · omega
          · simp
          · show 8 - _ < 8 - _; omega
          conv => whnf
          rw [app_row, app_len]
          simp only [kill_nrL _ (nr_rowA _), kill_nrL _ (nr_pairs _)]
          rfl
    · obtain rfl : c = 8 := by omega
      conv => whnf
      repeat' (first | (refine brd_t (by first | assumption | omega) ?_; conv => whnf) | (refine brd_f (by first | assumption | omega) ?_; conv => whnf) | (refine ask (by first | assumption | omega) ?_; conv => whnf) | (refine fit64 (by omega) ?_; conv => whnf) | (refine fit (by simp only [kmin, kmax]; omega) ?_; conv => whnf) | (refine br_t (by assumption) ?_; conv => whnf) | (refine br_f (by assumption) ?_; conv => whnf) | (refine get_of (by assumption) ?_; conv => whnf) | (refine get_map (by assumption) ?_; conv => whnf) | (refine ask (Nat.le_refl 1) ?_; conv => whnf) | (refine ask ⟨?_, ?_, ?_⟩ ?_; (simp <;> omega); (show _ + 1 ≤ 9223372036854775807; omega); (show (_ + 1) * 64 ≤ 140737488355328; omega); conv => whnf) | (refine draw_lex hE ?_ ?_; decide +kernel; conv => whnf) | (refine draw_any hE [⟨1, [(0, none), (1, none), (2, none), (3, none), (4, none), (5, none), (6, none), (7, none), (8, some 0)], some 9, [], [[]], []⟩] ?_ ?_; decide +kernel; conv => whnf) | (refine brd (fun h => ?_) (fun h => ?_) <;> conv => whnf) | (refine br (fun h => ?_) (fun h => ?_) <;> conv => whnf) | (refine ret_now hE ?_; conv => whnf) | (intro hlen; conv => whnf) | (refine seg_here ?_; conv => whnf) | (refine both ?_ ?_ <;> conv => whnf))
      refine next_drop [2, 3, 6, 7, 8, 9] [1, 4] (i + 1, M, N ++ [[a0, a1, a2, a3, a4, a5, a6, a7]]) ⟨hI, by omega, ?_, ?_⟩ ?_ ?_
      · simp; omega
      · intro j r hj
        rw [List.getElem?_append] at hj
        split at hj
        · exact hR j r hj
        · rename_i hjn
          obtain ⟨rfl, rfl⟩ : j = i ∧ r = [a0, a1, a2, a3, a4, a5, a6, a7] := by
            match hk : j - N.length with
            | 0 => rw [hk] at hj; cases hj; exact ⟨by omega, rfl⟩
            | k + 1 => rw [hk] at hj; simp at hj
          exact ⟨rfl, fun d k hk => hRk d k (by have := (List.getElem?_eq_some_iff.1 hk).1; simpa using this) hk⟩
      · show 1682 - (i + 1) < 1682 - i; omega
      conv => whnf
      rw [app_rowN, app_lenN]
      simp only [kill_nrL _ (nr_rowA _), kill_nrL _ (nr_pairs _)]
      rfl
  · conv => whnf
    repeat' (first | (refine brd_t (by first | assumption | omega) ?_; conv => whnf) | (refine brd_f (by first | assumption | omega) ?_; conv => whnf) | (refine ask (by first | assumption | omega) ?_; conv => whnf) | (refine fit64 (by omega) ?_; conv => whnf) | (refine fit (by simp only [kmin, kmax]; omega) ?_; conv => whnf) | (refine br_t (by assumption) ?_; conv => whnf) | (refine br_f (by assumption) ?_; conv => whnf) | (refine get_of (by assumption) ?_; conv => whnf) | (refine get_map (by assumption) ?_; conv => whnf) | (refine ret_up (up_frzK 3 4 [5] rfl ?_ rfl ?_ rfl (up_frzK 0 5 [4] rfl ?_ rfl ?_ rfl (up_here ?_)))) | (refine draw_lex hE ?_ ?_; decide +kernel; conv => whnf) | (refine draw_any hE [⟨1, [(0, none), (1, none), (2, none), (3, none), (4, none), (5, none), (6, none), (7, none), (8, some 0)], some 9, [], [[]], []⟩] ?_ ?_; decide +kernel; conv => whnf) | (refine brd (fun h => ?_) (fun h => ?_) <;> conv => whnf) | (refine br (fun h => ?_) (fun h => ?_) <;> conv => whnf) | (refine ret_now hE ?_; conv => whnf) | (intro hlen; conv => whnf) | (refine seg_here ?_; conv => whnf) | (refine both ?_ ?_ <;> conv => whnf))
    · exact nr_pairs _
    · exact hml.symm
    · rw [frz_nrL _ _ (nr_rowA N)]; exact nr_rowA N
    · rw [frz_nrL _ _ (nr_rowA N)]; exact hnl.symm
    · rw [frz_nrL _ _ (nr_rowA N)]
      exact ⟨rfl, M, N, rfl, hI, by omega, hR⟩
end Go.Proofs.YtmjglpdfkkmcoaaDoor
