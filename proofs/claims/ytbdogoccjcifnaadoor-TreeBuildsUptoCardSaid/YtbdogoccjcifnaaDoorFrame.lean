/- The frame of every law of this seat: from a contract over the arguments' readings to the given statement. No conditions. -/
import Derived.Test.YtbdogoccjcifnaaDoorRows
import Derived.WalkKit
import Derived.ProofKit
import Derived.OpenShut
import Derived.JoinedCond
import Derived.Deep.CondSized
import Derived.SizedLaws
set_option linter.unusedSimpArgs false
set_option linter.unusedVariables false
set_option maxRecDepth 100000
namespace Go.Proofs.YtbdogoccjcifnaaDoor
open Go.ChangeShapes Go.WideShapes Go.ChangeAt Go.RowKit

theorem frame_own : ownKnob Tryd.prog.godebug = none := by kernel_rfl
theorem frame_laidOut : laidOutB Tryd.prog = true := by kernel_rfl

/-- All arguments read as they did. -/
theorem frame_args {H : Type} {enc : TypeId × Value → H} {P : Program} (hl : laidOutB P = true) {W W' : World} (hb : Below W.heap.size W W') :
    ∀ (ts : List TypeId) (vs : List Value) (ds : List (DataW H)) (ps : List MemPlace), (∀ t ∈ ts, P.readableRec t = true ∧ t < P.types.size) →
      DataW.TrodAll enc P W 0 (fun _ => true) true ts vs ds ps → (∀ x ∈ ps, x.block < W.heap.size) →
      DataW.TrodAll enc P W' 0 (fun b => decide (b < W.heap.size)) true ts vs ds ps
  | [], [], [], ps, _, h, _ => h
  | t :: ts, v :: vs, d :: ds, ps, hr, h, hlt => by
    obtain ⟨p, q, h1, h2, rfl⟩ := h
    exact ⟨p, q, Below.trod hl (hr t (by simp)).1 (hr t (by simp)).2 h1 hb (fun x hx => hlt x (by simp [hx])),
      frame_args hl hb ts vs ds q (fun t ht => hr t (by simp [ht])) h2 (fun x hx => hlt x (by simp [hx])), rfl⟩
  | [], _ :: _, _, _, _, h, _ => by simp [DataW.TrodAll] at h
  | [], [], _ :: _, _, _, h, _ => by simp [DataW.TrodAll] at h
  | _ :: _, [], _, _, _, h, _ => by simp [DataW.TrodAll] at h
  | _ :: _, _ :: _, [], _, _, h, _ => by simp [DataW.TrodAll] at h

theorem frame_post {H : Type} {enc : TypeId × Value → H} {P : Program} {fn : Func} {s : ChangeSpec} {bt : TypeId} (hl : laidOutB P = true)
    (hr0 : fn.params.toList.all (fun t => P.readableRec t && decide (t < P.types.size)) = true) (hbt : P.underlying bt = some .bool) (hres : fn.resultTypes = #[bt]) (hv : s.vars = [])
    {W W' : World} {args : Array Value} {ds gs : List (DataW H)} {before : List MemPlace} (hW : DataW.Whole enc P fn.params.toList s.vars false W args.toList ds gs before)
    (hs : s.fn H (ds ++ gs) = { results := [.lit (.bool true)], args := ds }) (hb : Below W.heap.size W W') : s.post enc P fn false true false false W args (.bool true) W' := by
  have hr : ∀ t ∈ fn.params.toList, P.readableRec t = true ∧ t < P.types.size := fun t ht => by simpa using List.all_eq_true.1 hr0 t ht
  have hW' := hW
  obtain ⟨p, q, hA, hV, rfl, _, _⟩ := hW
  refine ⟨ds, gs, p ++ q, [], p, [], hW', ?_, ?_, ?_, ?_, ?_⟩
  · rw [hs, hres]
    exact trodAll_mk1 (shut_bool hbt true)
  · rw [hs]
    exact frame_args hl hb _ _ _ _ hr hA (fun x hx => hW'.lt x (by simp [hx]))
  · rw [hs, hv]
    exact rfl
  · exact hb.frame _
  · intro h
    cases h

/-- The core that a law owes: whatever reads as data, the call returns true and nothing that was there turns. -/
def LawCore (f : FuncId) (ts : List TypeId) (ok : (H : Type) → List (DataW H) → Prop) : Prop :=
  ∀ (H : Type) (enc : TypeId × Value → H) (W : World) (base : Nat) (args : Array Value) (ds : List (DataW H)) (ps : List MemPlace), (∀ (j : Nat) t v, ts[j]? = some t → args[j]? = some v → Value.okWide Tryd.prog W .any base t v) →
    DataW.TrodAll enc Tryd.prog W 0 (fun _ => true) true ts args.toList ds ps →
    (∀ x ∈ ps, x.block < W.heap.size) → ok H ds → Calls Tryd.prog f args W fun e W' => e = .returned (.bool true) ∧ Below W.heap.size W W'

theorem whole_len {H : Type} {enc : TypeId × Value → H} {P : Program} {w : World} {b : Nat} {sp : Nat → Bool} {hd : Bool} : ∀ (ts : List TypeId) (vs : List Value) (ds : List (DataW H)) (ps : List MemPlace), DataW.TrodAll enc P w b sp hd ts vs ds ps → ds.length = ts.length
  | [], [], [], _, _ => rfl
  | t :: ts, v :: vs, d :: ds, ps, h => by
    obtain ⟨p, q, _, h2, _⟩ := h
    simp [whole_len ts vs ds q h2]
  | [], _ :: _, _, _, h => by simp [DataW.TrodAll] at h
  | [], [], _ :: _, _, h => by simp [DataW.TrodAll] at h
  | _ :: _, [], _, _, h => by simp [DataW.TrodAll] at h
  | _ :: _, _ :: _, [], _, h => by simp [DataW.TrodAll] at h

theorem vars_nil {H : Type} {enc : TypeId × Value → H} {P : Program} {w : World} {sp : Nat → Bool} {gs : List (DataW H)} {q : List MemPlace} {vars : List String} (hv : vars = []) (h : DataW.TrodVars enc P w sp vars gs q) : gs = [] := by
  subst hv
  cases gs with
  | nil => rfl
  | cons g gs => simp [DataW.TrodVars] at h

/-- What the reach gives, as a premise of the core. -/
def Reached (P : Program) (ts : List TypeId) (H : Type) (ds : List (DataW H)) : Prop := (DataW.weightsEach P ts ds).all (· ≤ reachBytes) = true

set_option maxRecDepth 100000 in
theorem frame_said {os : Os} (started : os.Started) {H : Type} {enc : TypeId × Value → H} {f : FuncId} {fn : Func} {s : ChangeSpec} (noInit : Tryd.prog.inits.idxOf? f = none) (hfn : Tryd.prog.funcs[f]? = some fn)
    {bt : TypeId} (hbt : Tryd.prog.underlying bt = some .bool) (hres : fn.resultTypes = #[bt]) (hv : s.vars = []) (hr : fn.params.toList.all (fun t => Tryd.prog.readableRec t && decide (t < Tryd.prog.types.size)) = true)
    (hs : ∀ ds : List (DataW H), ds.length = fn.params.toList.length → s.fn H ds = { results := [.lit (.bool true)], args := ds })
    (witness : ∃ (w : World) (tape : Tape) (i : Input), w.os = os ∧ (w.forCall tape i).Shaped Tryd.prog ∧ i.vars = [] ∧ Input.okWide Tryd.prog (w.forCall tape i) .any w.heap.size f i ∧
      s.pre6 enc Tryd.prog fn [] false (w.forCall tape i).memory i.args ∧ Assume.holds {} Tryd.prog (lone (Frame.enter Tryd.prog f i.args .normal) [] (w.forCall tape i)))
    (core : LawCore f fn.params.toList (Reached Tryd.prog fn.params.toList)) :
    ReturnsInHanded {} Tryd.checked os f .any (s.pre6 enc Tryd.prog fn [] false) (s.post enc Tryd.prog fn false true false false) := by
  refine returnsInHanded_of_change_sized (C := Tryd.checked) frame_own started noInit hfn witness ?_
  intro W base args ds gs before hval hW _ hsz _
  have hW0 := hW
  obtain ⟨p, q, hA, hV, rfl, _, _⟩ := hW
  have hA' : DataW.TrodAll enc Tryd.prog W 0 (fun _ => true) true fn.params.toList args.toList ds p := hA
  obtain rfl := vars_nil hv hV
  have hsz' : Reached Tryd.prog fn.params.toList H ds := by
    have e : s.plain.varTypes Tryd.checked.prog = [] := by
      show List.filterMap _ s.vars = []
      rw [hv]; rfl
    rw [e] at hsz
    show (DataW.weightsEach Tryd.checked.prog fn.params.toList ds).all (· ≤ reachBytes) = true
    simpa only [List.append_nil] using hsz
  refine (core H enc W base args ds p (fun j t v h1 h2 => hval j t v (by simpa using h1) h2) hA' (fun x hx => hW0.lt x (by simp [hx])) hsz').mono fun e W' ⟨he, hb⟩ => ?_
  subst he
  exact ⟨_, rfl, frame_post frame_laidOut hr hbt hres hv hW0 (by rw [List.append_nil]; exact hs ds (whole_len _ _ _ _ hA')) hb⟩

set_option maxRecDepth 100000 in
theorem frame_upto {os : Os} (started : os.Started) {H : Type} {enc : TypeId × Value → H} {f : FuncId} {fn : Func} {s : ChangeSpec} (noInit : Tryd.prog.inits.idxOf? f = none) (hfn : Tryd.prog.funcs[f]? = some fn)
    {bt : TypeId} (hbt : Tryd.prog.underlying bt = some .bool) (hres : fn.resultTypes = #[bt]) (hv : s.vars = []) (hr : fn.params.toList.all (fun t => Tryd.prog.readableRec t && decide (t < Tryd.prog.types.size)) = true)
    (hs : ∀ ds : List (DataW H), ds.length = fn.params.toList.length → s.fn H ds = { results := [.lit (.bool true)], args := ds }) (F : Stop.Interp)
    (witness : ∃ (w : World) (tape : Tape) (i : Input), w.os = os ∧ (w.forCall tape i).Shaped Tryd.prog ∧ i.vars = [] ∧ Input.okWide Tryd.prog (w.forCall tape i) .any w.heap.size f i ∧
      (Rows.OpenSpec.upto s).pre6 enc Tryd.prog fn [] false (w.forCall tape i).memory i.args ∧ Assume.holds {} Tryd.prog (lone (Frame.enter Tryd.prog f i.args .normal) [] (w.forCall tape i)))
    (core : LawCore f fn.params.toList (fun H ds => Rows.uptoSmall H ds = true)) :
    ReturnsInHanded {} Tryd.checked os f .any ((Rows.OpenSpec.upto s).pre6 enc Tryd.prog fn [] false) (((Rows.OpenSpec.upto s).at F).post enc Tryd.prog fn false true false false) := by
  refine returnsInHanded_of_cond (C := Tryd.checked) (s := Rows.OpenSpec.upto s) (k := Rows.uptoSmall) rfl frame_own started noInit hfn witness ?_
  intro W base args ds gs before hval hW _ hk _
  have hW0 : DataW.Whole enc Tryd.prog fn.params.toList s.vars false W args.toList ds gs before := hW
  obtain ⟨p, q, hA, hV, rfl, _, _⟩ := hW
  have hA' : DataW.TrodAll enc Tryd.prog W 0 (fun _ => true) true fn.params.toList args.toList ds p := hA
  obtain rfl := vars_nil hv (show DataW.TrodVars enc Tryd.prog W (fun _ => true) s.vars gs q from hV)
  refine (core H enc W base args ds p (fun j t v h1 h2 => hval j t v (by simpa using h1) h2) hA' (fun x hx => hW0.lt x (by simp [hx])) (by simpa using hk)).mono fun e W' ⟨he, hb⟩ => ?_
  subst he
  exact ⟨_, rfl, frame_post (s := s) frame_laidOut hr hbt hres hv hW0 (by rw [List.append_nil]; exact hs ds (whole_len _ _ _ _ hA')) hb⟩
end Go.Proofs.YtbdogoccjcifnaaDoor
