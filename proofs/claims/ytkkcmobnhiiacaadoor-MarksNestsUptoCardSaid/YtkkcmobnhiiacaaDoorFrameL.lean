/- The frame of a law whose row lists package-level variables with their content: from a contract in such worlds to the given statement. No conditions. -/
import Derived.Test.YtkkcmobnhiiacaaDoorFields
import Derived.Test.YtkkcmobnhiiacaaDoorLaw
import Derived.Test.YtkkcmobnhiiacaaDoorTie
import Derived.Deep.DeepHandedRow
import Derived.Lay
import Derived.SevenTiedAt
import Derived.LaidSub
set_option linter.unusedSimpArgs false
set_option linter.unusedVariables false
set_option maxRecDepth 100000
namespace Go.Proofs.YtkkcmobnhiiacaaDoor
open Go.ChangeShapes Go.WideShapes Go.ChangeAt Go.RowKit

/-- The core that a law owes, in worlds of G. -/
def LawCoreG (G : World → Prop) (f : FuncId) (ts : List TypeId) (ok : (H : Type) → List (DataW H) → Prop) : Prop :=
  ∀ (H : Type) (enc : TypeId × Value → H) (W : World) (base : Nat) (args : Array Value) (ds : List (DataW H)) (ps : List MemPlace), G W → (∀ (j : Nat) t v, ts[j]? = some t → args[j]? = some v → Value.okWide Tryd.prog W .any base t v) →
    DataW.TrodAll enc Tryd.prog W 0 (fun _ => true) true ts args.toList ds ps →
    (∀ x ∈ ps, x.block < W.heap.size) → ok H ds → Calls Tryd.prog f args W fun e W' => e = .returned (.bool true) ∧ Below W.heap.size W W'

theorem coreG_of {G : World → Prop} {f : FuncId} {ts : List TypeId} {ok : (H : Type) → List (DataW H) → Prop}
    (h : ∀ (H : Type) (enc : TypeId × Value → H) (W : World) (base : Nat) (args : List Value) (ds : List (DataW H)) (ps : List MemPlace), (∀ (j : Nat) t v, ts[j]? = some t → args[j]? = some v → Value.okWide Tryd.prog W .any base t v) →
      DataW.TrodAll enc Tryd.prog W 0 (fun _ => true) true ts args ds ps → (∀ x ∈ ps, x.block < W.heap.size) → ok H ds → ∃ xs, ArgsAre W args xs ∧ Fn1G Tryd.prog G f xs (fun r => r = .bool true)) : LawCoreG G f ts ok := by
  intro H enc W base args ds ps hG hval hA hlt hok
  obtain ⟨xs, hx, hf⟩ := h H enc W base args.toList ds ps (fun j t v h1 h2 => hval j t v h1 (by simpa using h2)) hA hlt hok
  have := hf W (fun b => b < W.heap.size) args.toList hG hx.1 hx.2 (fun _ h => h)
  rw [Array.toArray_toList] at this
  refine this.mono ?_
  rintro e W' ⟨v, r, I', rfl, rfl, hp, _, hk⟩
  refine ⟨?_, ⟨hk.os, hk.tape, hk.output, hk.size, fun k hlt => hk.block k hlt (fun h => h)⟩⟩
  cases hp
  rfl

theorem args_small {H : Type} {d : DataW H} (h : Rows.uptoSmall H [d] = true) : Rows.uptoBulk d ≤ 1048576 := by
  have := of_decide_eq_true h
  simpa [Rows.uptoBulkAll] using this

set_option maxRecDepth 100000 in
theorem frame_laid {os : Os} (started : os.Started) {H : Type} {enc : TypeId × Value → H} {f : FuncId} {fn : Func} {S : OpenSpec} {s : ChangeSpec} {laid : List (String × DataW Unit)} {G : World → Prop} {ok : (H : Type) → List (DataW H) → Prop}
    (noInit : Tryd.prog.inits.idxOf? f = none) (hfn : Tryd.prog.funcs[f]? = some fn)
    {bt : TypeId} (hbt : Tryd.prog.underlying bt = some .bool) (hres : fn.resultTypes = #[bt]) (hv : s.vars = []) (hr : fn.params.toList.all (fun t => Tryd.prog.readableRec t && decide (t < Tryd.prog.types.size)) = true)
    (hs : ∀ ds : List (DataW H), ds.length = fn.params.toList.length → s.fn H ds = { results := [.lit (.bool true)], args := ds }) (F : Stop.Interp)
    (hS : S.at F = s) (hSv : S.vars = s.vars) (hSb : S.bare.plain.varTypes Tryd.checked.prog = []) (hG : ∀ W, laidMetH Tryd.prog laid W → G W)
    (hok : ∀ ds : List (DataW H), (∀ k, S.cond = some k → k H ds = true) → Reached Tryd.prog fn.params.toList H ds → ok H ds)
    (witness : ∃ (w : World) (tape : Tape) (i : Input), w.os = os ∧ (w.forCall tape i).Shaped Tryd.prog ∧ i.vars = [] ∧ Input.okWide Tryd.prog (w.forCall tape i) .any w.heap.size f i ∧
      S.preRow enc Tryd.prog fn [] false laid (w.forCall tape i).memory i.args ∧ Assume.holds {} Tryd.prog (lone (Frame.enter Tryd.prog f i.args .normal) [] (w.forCall tape i)))
    (core : LawCoreG G f fn.params.toList ok) :
    ReturnsInHanded {} Tryd.checked os f .any (S.preRow enc Tryd.prog fn [] false laid) ((S.at F).post enc Tryd.prog fn false true false false) := by
  refine returnsInHanded_of_row (C := Tryd.checked) (s := S) frame_own started noInit hfn witness ?_
  intro W base args ds gs before hval hW _ hk hsz hL _ _
  have hW0 : DataW.Whole enc Tryd.prog fn.params.toList s.vars false W args.toList ds gs before := hSv ▸ hW
  have hW1 := hW0
  obtain ⟨p, q, hA, hV, rfl, _, _⟩ := hW1
  have hA' : DataW.TrodAll enc Tryd.prog W 0 (fun _ => true) true fn.params.toList args.toList ds p := hA
  obtain rfl := vars_nil hv (show DataW.TrodVars enc Tryd.prog W (fun _ => true) s.vars gs q from hV)
  have hsz' : Reached Tryd.prog fn.params.toList H ds := by
    rw [hSb] at hsz
    show (DataW.weightsEach Tryd.checked.prog fn.params.toList ds).all (· ≤ reachBytes) = true
    simpa only [List.append_nil] using hsz
  refine (core H enc W base args ds p (hG W hL) (fun j t v h1 h2 => hval j t v (by simpa using h1) h2) hA' (fun x hx => hW0.lt x (by simp [hx])) (hok ds (fun k hk' => by simpa using hk k hk') hsz')).mono fun e W' ⟨he, hb⟩ => ?_
  subst he
  rw [hS]
  exact ⟨_, rfl, frame_post (s := s) frame_laidOut hr hbt hres hv hW0 (by rw [List.append_nil]; exact hs ds (whole_len _ _ _ _ hA')) hb⟩

/-! ### The two variables of the marks -/
def laidM : List (String × DataW Unit) := [("unicode.White_Space", Rows.laid_unicode_White_Space), ("strings.asciiSpace", Rows.laid_strings_asciiSpace)]
theorem asc_tab : (Rows.laid_strings_asciiSpace : DataW Unit) = Lib.tabData .u8 Lib.asciiSpaceTab := by kernel_rfl
theorem asc_type : (Tryd.prog.globals[3]?).map (·.type) = some 177 := by kernel_rfl
theorem asc_cells : Tryd.prog.cellsOf 177 = 256 := by kernel_rfl
theorem byte_cells : Tryd.prog.cellsOf 5 = 1 := by kernel_rfl
theorem ga_of_laid (W : World) (h : laidMetH Tryd.prog laidM W) : GA W := by
  have h1 : laidMetH Tryd.prog [("strings.asciiSpace", Rows.laid_strings_asciiSpace)] W := laidMetH.filter (fun x => x.1 == "strings.asciiSpace") h
  have h2 : laidMet Tryd.prog [("strings.asciiSpace", Lib.tabData .u8 Lib.asciiSpaceTab)] W := by
    rw [asc_tab] at h1
    exact h1
  exact Lib.tabIs_of_head named_ga asc_type Tryd.underlying177 Tryd.underlying5 byte_cells asc_cells h2
theorem shaped_laidM (os : Os) (args : Array Value) : ((World.laidAll Tryd.prog os laidM).forCall (fun _ _ => 0) ⟨#[], args, []⟩).Shaped Tryd.prog := World.shaped_of_ZipB (by kernel_rfl) (by kernel_rfl)
theorem met_laidM (os : Os) (args : Array Value) : laidMetH Tryd.prog laidM ((World.laidAll Tryd.prog os laidM).forCall (fun _ _ => 0) ⟨#[], args, []⟩).memory := laidMet_laidAll _ (by kernel_rfl) (by kernel_rfl)
theorem witness_laidM {os : Os} {H : Type} {enc : TypeId × Value → H} {f : FuncId} {fn : Func} {S : OpenSpec} (args : Array Value) (fuel : Nat)
    (hok : Input.okWideB Tryd.prog ((World.laidAll Tryd.prog os laidM).forCall (fun _ _ => 0) ⟨#[], args, []⟩) f ⟨#[], args, []⟩ = true)
    {x : List (DataW H) × List (DataW H) × List MemPlace} (hx : DataW.whole enc Tryd.prog ((World.laidAll Tryd.prog os laidM).forCall (fun _ _ => 0) ⟨#[], args, []⟩).memory fn.params.toList S.vars false args.toList fuel = some x)
    (hkk : ∀ k, S.cond = some k → k H (x.1 ++ x.2.1) = true) (hsz : S.bare.sizedB enc Tryd.prog fn false ((World.laidAll Tryd.prog os laidM).forCall (fun _ _ => 0) ⟨#[], args, []⟩).memory args fuel = true) :
    ∃ (w : World) (tape : Tape) (i : Input), w.os = os ∧ (w.forCall tape i).Shaped Tryd.prog ∧ i.vars = [] ∧ Input.okWide Tryd.prog (w.forCall tape i) .any w.heap.size f i ∧
      S.preRow enc Tryd.prog fn [] false laidM (w.forCall tape i).memory i.args ∧ Assume.holds {} Tryd.prog (lone (Frame.enter Tryd.prog f i.args .normal) [] (w.forCall tape i)) :=
  ⟨World.laidAll Tryd.prog os laidM, fun _ _ => 0, ⟨#[], args, []⟩, World.laidAll_os _ _ _, shaped_laidM os args, (Input.okWide_of_okWideB (base := 0) hok).1, (Input.okWide_of_okWideB hok).2,
    OpenSpec.preRow_of_cond fuel hx rfl hkk hsz (met_laidM os args), by
    simp only [Assume.holds]
    exact ⟨by simp, by simp, fun _ => Modest.zero, by simp, by simp⟩⟩
end Go.Proofs.YtkkcmobnhiiacaaDoor
