/- Maps to ints: made, looked up, stored into; their keys coded. No conditions. -/
import Derived.Test.YtmjglpdfkkmcoaaOwn
import Derived.Test.YtmjglpdfkkmcoaaData
import Derived.Tactics
import Derived.MapKept
set_option linter.unusedSimpArgs false
set_option linter.unusedVariables false
set_option maxRecDepth 100000
namespace Go.Proofs.Ytmjglpdfkkmcoaa
open Go.RowKit

/-- What a map answers. -/
def lookM {α : Type} [DecidableEq α] (a : α) : List (α × Int) → Option Int
  | [] => none
  | q :: L => if a = q.1 then some q.2 else lookM a L
/-- How keys of a map are coded, and found. -/
structure KeyOk {α : Type} [DecidableEq α] (P : Program) (t : TypeId) (kV : α → Value) (kA : α → V) : Prop where
  map : ∃ kt vt, P.underlying t = some (.map kt vt) ∧ (∀ w, (zeroValue vt).run P w = .ok (.int .i64 0) w) ∧ (∀ e a w, (Instr.checkKey e 10000 kt (kV a)).run P w = .ok () w) ∧
    ∀ a w (L : List (α × Int)) (es : List MapEntry), es.map (fun e => (e.key, e.val)) = L.map (fun p => (kV p.1, Value.int .i64 p.2)) → ∃ r, (Instr.findKey kt (kV a) es).run P w = .ok r w ∧ r.map (·.2) = ((lookM a L)).map (Value.int .i64)
  rep : ∀ w I bl v a, Rep w I bl v (kA a) → v = kV a
theorem look_cons {α : Type} [DecidableEq α] (a : α) (q : α × Int) (L : List (α × Int)) : lookM a (q :: L) = if a = q.1 then some q.2 else lookM a L := rfl
theorem look_append {α : Type} [DecidableEq α] (a : α) (L M : List (α × Int)) : lookM a (L ++ M) = ((lookM a L)).or ((lookM a M)) := by
  induction L with
  | nil => simp [lookM]
  | cons q L ih =>
    rw [List.cons_append, look_cons, look_cons, ih]
    split <;> simp
theorem asking_ok {P : Program} {α : Type} [DecidableEq α] {kt : TypeId} {kV : α → Value} (heq : ∀ a b w, (Op.equal kt (kV a) (kV b)).run P w = .ok (decide (a = b)) w) (a : α) (w : World) : ∀ (L : List (α × Int)) (es : List MapEntry) (i : Nat),
    es.map (fun e => (e.key, e.val)) = L.map (fun p => (kV p.1, Value.int .i64 p.2)) → ∃ r, (Instr.findAsking kt (kV a) es i).run P w = .ok r w ∧ r.map (·.2) = ((lookM a L)).map (Value.int .i64)
  | [], [], i, _ => ⟨none, by simp [Instr.findAsking], by simp [lookM]⟩
  | [], _ :: _, i, h => by simp at h
  | _ :: _, [], i, h => by simp at h
  | q :: L, e :: es, i, h => by
    simp only [List.map_cons, List.cons.injEq, Prod.mk.injEq] at h
    obtain ⟨⟨h1, h2⟩, h3⟩ := h
    unfold Instr.findAsking
    rw [h1, look_cons]
    by_cases hq : a = q.1
    · exact ⟨some (i, e.val), by simp [heq, hq, Result.andThen], by simp [hq, h2]⟩
    · obtain ⟨r, h4, h5⟩ := asking_ok heq a w L es (i + 1) h3
      exact ⟨r, by simp [heq, hq, Result.andThen, h4], by simp [hq, h5]⟩
theorem now_ok {α : Type} [DecidableEq α] {d : TypeDesc} {kV : α → Value} (heq : ∀ a b, Instr.sameNow d (kV a) (kV b) = some (decide (a = b))) (a : α) : ∀ (L : List (α × Int)) (es : List MapEntry) (i : Nat),
    es.map (fun e => (e.key, e.val)) = L.map (fun p => (kV p.1, Value.int .i64 p.2)) → ∃ r, Instr.findNow d (kV a) es i = some r ∧ r.map (·.2) = ((lookM a L)).map (Value.int .i64)
  | [], [], i, _ => ⟨none, by simp [Instr.findNow], by simp [lookM]⟩
  | [], _ :: _, i, h => by simp at h
  | _ :: _, [], i, h => by simp at h
  | q :: L, e :: es, i, h => by
    simp only [List.map_cons, List.cons.injEq, Prod.mk.injEq] at h
    obtain ⟨⟨h1, h2⟩, h3⟩ := h
    unfold Instr.findNow
    rw [h1, look_cons, heq]
    by_cases hq : a = q.1
    · exact ⟨some (i, e.val), by simp [hq], by simp [hq, h2]⟩
    · obtain ⟨r, h4, h5⟩ := now_ok heq a L es (i + 1) h3
      exact ⟨r, by simp [hq, h4], by simp [hq, h5]⟩
theorem find_by_now {P : Program} {α : Type} [DecidableEq α] {kt : TypeId} {d : TypeDesc} {kV : α → Value} (hd : P.underlying kt = some d) (heq : ∀ a b, Instr.sameNow d (kV a) (kV b) = some (decide (a = b))) (a : α) (w : World) (L : List (α × Int)) (es : List MapEntry)
    (h : es.map (fun e => (e.key, e.val)) = L.map (fun p => (kV p.1, Value.int .i64 p.2))) : ∃ r, (Instr.findKey kt (kV a) es).run P w = .ok r w ∧ r.map (·.2) = ((lookM a L)).map (Value.int .i64) := by
  obtain ⟨r, h1, h2⟩ := now_ok heq a L es 0 h
  exact ⟨r, MapKept.run_findKey hd h1, h2⟩
theorem find_by_asking {P : Program} {α : Type} [DecidableEq α] {kt : TypeId} {d : TypeDesc} {kV : α → Value} (hd : P.underlying kt = some d) (hn : ∀ a b, Instr.sameNow d (kV a) (kV b) = none) (heq : ∀ a b w, (Op.equal kt (kV a) (kV b)).run P w = .ok (decide (a = b)) w)
    (a : α) (w : World) (L : List (α × Int)) (es : List MapEntry) (h : es.map (fun e => (e.key, e.val)) = L.map (fun p => (kV p.1, Value.int .i64 p.2))) : ∃ r, (Instr.findKey kt (kV a) es).run P w = .ok r w ∧ r.map (·.2) = ((lookM a L)).map (Value.int .i64) := by
  match L, es, h with
  | [], [], h => exact ⟨none, by simp [Instr.findKey, run_underlying hd, Instr.findNow, Result.andThen], by simp [lookM]⟩
  | [], _ :: _, h => simp at h
  | _ :: _, [], h => simp at h
  | q :: L, e :: es, h =>
    obtain ⟨r, h1, h2⟩ := asking_ok heq a w (q :: L) (e :: es) 0 h
    refine ⟨r, ?_, h2⟩
    have h3 : e.key = kV q.1 := by simp only [List.map_cons, List.cons.injEq, Prod.mk.injEq] at h; exact h.1.1
    unfold Instr.findKey
    simp only [Sem.run_bind, run_underlying hd, Result.andThen_ok]
    have h4 : Instr.findNow d (kV a) (e :: es) 0 = none := by unfold Instr.findNow; rw [h3, hn]
    rw [h4]
    exact h1
/-- A map, as an object. -/
def mpO {α : Type} (kV : α → Value) (L : List (α × Int)) : Ob := .mp (L.map fun p => (kV p.1, Value.int .i64 p.2))
section
variable {C : Ctx} {α : Type} [DecidableEq α] {t : TypeId} {kV : α → Value} {kA : α → V} {K : V → ES → Prop} {σ : ES}
theorem map_at {a : Act} {w : World} {I : Nat → Prop} {bl : Nat → Option BI} (hp : RP C σ.st a w I bl) {m : Operand} {id : Nat} {es : List (Value × Value)} (hm : σ.val m = .it id) (ho : σ.heap[id]? = some (some (.mp es))) :
    ∃ b z arr clock, bl id = some ⟨some b, 1, z⟩ ∧ w.heap[b]? = some (.map arr clock) ∧ arr.toList.map (fun e => (e.key, e.val)) = es ∧ a.eval m = .map (some b) := by
  have hv := hp.val m
  rw [es_val, hm] at hv
  obtain ⟨b0, base0, z0, hbl0, hv⟩ := hv.inv_it
  obtain ⟨b, _, z, t, hbl, hg, he, _⟩ := hp.heap.obj id _ ho
  rw [hbl] at hbl0
  simp only [Option.some.injEq, BI.mk.injEq] at hbl0
  obtain ⟨rfl, rfl, rfl⟩ := hbl0
  exact ⟨b, z, t.1, t.2, hbl, hg, he, hv⟩
theorem opn_make (h : eNew σ (.mp []) fun id σ => K (.it id) σ) : OpN C (.makeMap t none) K σ :=
  ⟨fun o ho => opOk_value fun a w I bl hp => ⟨.map (some w.heap.size), w.alloc (.map #[] 0), _, _, by
    simp [execOp, ho, Instr.makeMap, newObj, Sem.run], kst (eNew_elim h), (hp.newObB (base := 1) (.map #[] 0) (.mp []) 0 ⟨w.heap.size, 0, 0, (#[], 0), upd_same _ _ _, heap_alloc_new w _, rfl, trivial⟩).relx (.it _ _ 1 0 (upd_same _ _ _))⟩⟩
theorem run_look (hk : KeyOk C.P t kV kA) {w : World} {b : Nat} {arr : Array MapEntry} {clock : Nat} {L : List (α × Int)} (hg : w.heap[b]? = some (.map arr clock)) (he : arr.toList.map (fun e => (e.key, e.val)) = L.map (fun p => (kV p.1, Value.int .i64 p.2))) (x : α) (ok : Bool) :
    (Instr.lookup t (.map (some b)) (kV x) ok).run C.P w = .ok (if ok then .tuple #[.int .i64 (((lookM x L)).getD 0), .bool ((lookM x L)).isSome] else .int .i64 (((lookM x L)).getD 0)) w := by
  obtain ⟨kt, vt, h1, h2, h3, h4⟩ := hk.map
  obtain ⟨r, h5, h6⟩ := h4 x w L arr.toList he
  unfold Instr.lookup
  cases hl : (lookM x L) with
  | none =>
    rw [hl] at h6
    obtain rfl : r = none := by simpa using h6
    simp [run_underlying h1, MapKept.run_getObj_map hg, h3, h5, h2, Result.andThen]
  | some n =>
    rw [hl] at h6
    obtain ⟨i, rfl⟩ : ∃ i, r = some (i, .int .i64 n) := by
      cases r with
      | none => simp at h6
      | some r => obtain ⟨i, v⟩ := r; simp at h6; subst h6; exact ⟨i, rfl⟩
    simp [run_underlying h1, MapKept.run_getObj_map hg, h3, h5, Result.andThen]
theorem opn_look_t (hk : KeyOk C.P t kV kA) {m k : Operand} (id : Nat) (L : List (α × Int)) (x : α) (n : Int) (hm : σ.val m = .it id) (hx : σ.val k = kA x) (ho : σ.heap[id]? = some (some (mpO kV L))) (hl : (lookM x L) = some n)
    (h : K (.tup [.int .i64 n, .bool true]) σ) : OpN C (.lookup t m k true) K σ :=
  ⟨fun o ho' => opOk_pure _ (kst h) fun a w I bl hp => by
    obtain ⟨b, z, arr, clock, _, hg, he, hv⟩ := map_at hp hm ho
    have hkv := hp.val k
    rw [es_val, hx] at hkv
    have hr := run_look hk hg he x true
    rw [hl] at hr
    refine ⟨_, by simp [execOp, ho', hv, hk.rep _ _ _ _ _ hkv, hr], .pure _ _ (.tup [.int .i64 n, .bool true] [.int .i64 n, .bool true] rfl fun i v c hv hc => ?_)⟩
    match i with
    | 0 => simp at hv hc; subst hv; subst hc; exact .int _ _
    | 1 => simp at hv hc; subst hv; subst hc; exact .bool _
    | i + 2 => simp at hv⟩
theorem opn_look_f (hk : KeyOk C.P t kV kA) {m k : Operand} (id : Nat) (L : List (α × Int)) (x : α) (hm : σ.val m = .it id) (hx : σ.val k = kA x) (ho : σ.heap[id]? = some (some (mpO kV L))) (hl : (lookM x L) = none)
    (h : K (.tup [.int .i64 0, .bool false]) σ) : OpN C (.lookup t m k true) K σ :=
  ⟨fun o ho' => opOk_pure _ (kst h) fun a w I bl hp => by
    obtain ⟨b, z, arr, clock, _, hg, he, hv⟩ := map_at hp hm ho
    have hkv := hp.val k
    rw [es_val, hx] at hkv
    have hr := run_look hk hg he x true
    rw [hl] at hr
    refine ⟨_, by simp [execOp, ho', hv, hk.rep _ _ _ _ _ hkv, hr], .pure _ _ (.tup [.int .i64 0, .bool false] [.int .i64 0, .bool false] rfl fun i v c hv hc => ?_)⟩
    match i with
    | 0 => simp at hv hc; subst hv; subst hc; exact .int _ _
    | 1 => simp at hv hc; subst hv; subst hc; exact .bool _
    | i + 2 => simp at hv⟩
theorem opn_look_v (hk : KeyOk C.P t kV kA) {m k : Operand} (id : Nat) (L : List (α × Int)) (x : α) (n : Int) (hm : σ.val m = .it id) (hx : σ.val k = kA x) (ho : σ.heap[id]? = some (some (mpO kV L))) (hl : ((lookM x L)).getD 0 = n)
    (h : K (.int .i64 n) σ) : OpN C (.lookup t m k false) K σ :=
  ⟨fun o ho' => opOk_pure _ (kst h) fun a w I bl hp => by
    obtain ⟨b, z, arr, clock, _, hg, he, hv⟩ := map_at hp hm ho
    have hkv := hp.val k
    rw [es_val, hx] at hkv
    have hr := run_look hk hg he x false
    rw [hl] at hr
    exact ⟨_, by simp [execOp, ho', hv, hk.rep _ _ _ _ _ hkv, hr], .pure _ _ (.int _ _)⟩⟩
/-- A key that is new: it is put behind the others. -/
theorem run_upd (hk : KeyOk C.P t kV kA) {w : World} {b : Nat} {arr : Array MapEntry} {clock : Nat} {L : List (α × Int)} (hg : w.heap[b]? = some (.map arr clock)) (he : arr.toList.map (fun e => (e.key, e.val)) = L.map (fun p => (kV p.1, Value.int .i64 p.2))) (x : α) (v : Value) (hl : (lookM x L) = none) :
    (Instr.mapUpdate t (.map (some b)) (kV x) v).run C.P w = .ok () (w.putObj b (.map (arr.push { key := kV x, val := v, born := clock }) (clock + 1))) := by
  obtain ⟨kt, vt, h1, h2, h3, h4⟩ := hk.map
  obtain ⟨r, h5, h6⟩ := h4 x w L arr.toList he
  rw [hl] at h6
  obtain rfl : r = none := by simpa using h6
  unfold Instr.mapUpdate
  simp [run_underlying h1, MapKept.run_getObj_map hg, h3, h5, MapKept.run_setObj_map _ hg, Result.andThen, World.putObj]
theorem upd_ok (hk : KeyOk C.P t kV kA) {m k y : Operand} (id : Nat) (L : List (α × Int)) (x : α) (n : Int) (hm : σ.val m = .it id) (hx : σ.val k = kA x) (hy : σ.val y = .int .i64 n) (ho : σ.heap[id]? = some (some (mpO kV L))) (hl : (lookM x L) = none)
    (h : K .any ⟨σ.n, σ.u, σ.heap.set id (some (mpO kV (L ++ [(x, n)])))⟩) {o : Oper} (ho' : o.op = .mapUpdate t m k y ∨ o.op = .insert t m k y) : OpOk C o σ.st (Kst K) :=
  opOk_skip fun a w I bl hp => by
    obtain ⟨b, z, arr, clock, hbl, hg, he, hv⟩ := map_at hp hm ho
    have hkv := hp.val k
    rw [es_val, hx] at hkv
    have hyv := hp.val y
    rw [es_val, hy] at hyv
    have hr := run_upd hk hg he x (.int .i64 n) hl
    refine ⟨_, _, ?_, kst h, (hp.setOb hbl hg (by simp) (mpO kV (L ++ [(x, n)])) ⟨b, 0, z, (arr.push { key := kV x, val := .int .i64 n, born := clock }, clock + 1), hbl, World.putObj_heap_same (hp.heap.own id _ b hbl rfl).1, ?_, trivial⟩).rel⟩
    · rcases ho' with ho' | ho' <;> simp [execOp, ho', hv, hk.rep _ _ _ _ _ hkv, hyv.inv_int, hr]
    · simp [he]
theorem opn_upd (hk : KeyOk C.P t kV kA) {m k y : Operand} (id : Nat) (L : List (α × Int)) (x : α) (n : Int) (hm : σ.val m = .it id) (hx : σ.val k = kA x) (hy : σ.val y = .int .i64 n) (ho : σ.heap[id]? = some (some (mpO kV L))) (hl : (lookM x L) = none)
    (h : fH (σ.heap.set id (some (mpO kV (L ++ [(x, n)])))) fun hh => K .any ⟨σ.n, σ.u, hh⟩) : OpN C (.mapUpdate t m k y) K σ :=
  ⟨fun _ ho' => upd_ok hk id L x n hm hx hy ho hl (by rw [fH_eq] at h; exact h) (.inl ho')⟩
theorem opn_ins (hk : KeyOk C.P t kV kA) {m k y : Operand} (id : Nat) (L : List (α × Int)) (x : α) (n : Int) (hm : σ.val m = .it id) (hx : σ.val k = kA x) (hy : σ.val y = .int .i64 n) (ho : σ.heap[id]? = some (some (mpO kV L))) (hl : (lookM x L) = none)
    (h : fH (σ.heap.set id (some (mpO kV (L ++ [(x, n)])))) fun hh => K .any ⟨σ.n, σ.u, hh⟩) : OpN C (.insert t m k y) K σ :=
  ⟨fun _ ho' => upd_ok hk id L x n hm hx hy ho hl (by rw [fH_eq] at h; exact h) (.inr ho')⟩
end
theorem opn_len {C : Ctx} {α : Type} {t : TypeId} {kV : α → Value} {K : V → ES → Prop} {σ : ES} {m : Operand} (id : Nat) (L : List (α × Int)) (hm : σ.val m = .it id) (ho : σ.heap[id]? = some (some (mpO kV L))) (hu : ∃ kt vt, C.P.underlying t = some (.map kt vt))
    (h : K (.int .i64 (L.length : Nat)) σ) : OpN C (.call { callee := .builtin .len, args := #[m], argTypes := #[t] }) K σ :=
  ⟨fun o ho' => opOk_pure _ (kst h) fun a w I bl hp => by
    obtain ⟨b, z, arr, clock, _, hg, he, hv⟩ := map_at hp hm ho
    obtain ⟨kt, vt, hu⟩ := hu
    have hs : arr.size = L.length := by have := congrArg List.length he; simpa using this
    refine ⟨.int .i64 (L.length : Nat), ?_, .pure _ _ (.int _ _)⟩
    simp [execOp, ho', resolve, invoke, builtin, hv, Builtin.len_, run_underlying hu, MapKept.run_getObj_map hg, hs, goInt]⟩
end Go.Proofs.Ytmjglpdfkkmcoaa
