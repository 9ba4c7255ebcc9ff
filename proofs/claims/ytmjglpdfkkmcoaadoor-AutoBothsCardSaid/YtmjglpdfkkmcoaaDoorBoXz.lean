/- The card AutoBoths: every input. No conditions. -/
import Derived.Test.YtmjglpdfkkmcoaaDoorLaw
import Derived.Test.YtmjglpdfkkmcoaaDoorTie
import Derived.Deep.DeepHandedRow
import Derived.Lay
import Derived.SevenTiedAt
import Derived.LaidSub
import Derived.Test.YtmjglpdfkkmcoaaDoorBoXf
import Derived.Test.YtmjglpdfkkmcoaaDoorBoXc
import Derived.Test.YtmjglpdfkkmcoaaDoorCards
/-! The frame of a law whose row lists package-level variables with their content: from a contract in such worlds to the given statement. No conditions. -/
set_option linter.unusedSimpArgs false
set_option linter.unusedVariables false
set_option maxRecDepth 100000
namespace Go.Proofs.YtmjglpdfkkmcoaaDoor
open Go.ChangeShapes Go.WideShapes Go.ChangeAt Go.RowKit

/-- The core that a law owes, in worlds of G. -/
def LawCoreG (G : World → Prop) (f : FuncId) (ts : List TypeId) (ok : (H : Type) → List (DataW H) → Prop) : Prop :=
  ∀ (H : Type) (enc : TypeId × Value → H) (W : World) (base : Nat) (args : Array Value) (ds : List (DataW H)) (ps : List MemPlace), G W → (∀ (j : Nat) t v, ts[j]? = some t → args[j]? = some v → Value.okWide Tryd.prog W .any base t v) →
    DataW.TrodAll enc Tryd.prog W 0 (fun _ => true) true ts args.toList ds ps →
    (∀ x ∈ ps, x.block < W.heap.size) → ok H ds → Calls Tryd.prog f args W fun e W' => e = .returned (.bool true) ∧ Below W.heap.size W W'

theorem coreG_of {G : World → Prop} {f : FuncId} {ts : List TypeId} {ok : (H : Type) → List (DataW H) → Prop}
    (h : ∀ (H : Type) (enc : TypeId × Value → H) (W : World) (base : Nat) (args : List Value) (ds : List (DataW H)) (ps : List MemPlace), (∀ (j : Nat) t v, ts[j]? = some t → args[j]? = some v → Value.okWide Tryd.prog W .any base t v) →
      DataW.TrodAll enc Tryd.prog W 0 (fun _ => true) true ts args ds ps → (∀ x ∈ ps, x.block < W.heap.size) → ok H ds → ∃ xs, ArgsAre W args xs ∧ Fn1G Tryd.prog G f xs (fun r => r = .bool true)) : LawCoreG G f ts ok := by
  intro H enc W base args ds ps hG hval hA hlt hok
  obtain ⟨xs, hx, hf⟩ := h H enc W base args.toList ds ps (fun j t v h1 h2 => hval j t v h1 (by simpa using h2)) hA hlt hok
  have := hf W (fun b => b < W.heap.size) args.toList hG hx.1 hx.2 (fun _ h => h)
  rw [Array.toArray_toList] at this
  refine this.mono ?_
  rintro e W' ⟨v, r, I', rfl, rfl, hp, _, hk⟩
  refine ⟨?_, ⟨hk.os, hk.tape, hk.output, hk.size, fun k hlt => hk.block k hlt (fun h => h)⟩⟩
  cases hp
  rfl

theorem args_small {H : Type} {d : DataW H} (h : Rows.uptoSmall H [d] = true) : Rows.uptoBulk d ≤ 1048576 := by
  have := of_decide_eq_true h
  simpa [Rows.uptoBulkAll] using this

set_option maxRecDepth 100000 in
theorem frame_laid {os : Os} (started : os.Started) {H : Type} {enc : TypeId × Value → H} {f : FuncId} {fn : Func} {S : OpenSpec} {s : ChangeSpec} {laid : List (String × DataW Unit)} {G : World → Prop} {ok : (H : Type) → List (DataW H) → Prop}
    (noInit : Tryd.prog.inits.idxOf? f = none) (hfn : Tryd.prog.funcs[f]? = some fn)
    {bt : TypeId} (hbt : Tryd.prog.underlying bt = some .bool) (hres : fn.resultTypes = #[bt]) (hv : s.vars = []) (hr : fn.params.toList.all (fun t => Tryd.prog.readableRec t && decide (t < Tryd.prog.types.size)) = true)
    (hs : ∀ ds : List (DataW H), ds.length = fn.params.toList.length → s.fn H ds = { results := [.lit (.bool true)], args := ds }) (F : Stop.Interp)
    (hS : S.at F = s) (hSv : S.vars = s.vars) (hSb : S.bare.plain.varTypes Tryd.checked.prog = []) (hG : ∀ W, laidMetH Tryd.prog laid W → W.ShapedOpen Tryd.prog → G W)
    (hok : ∀ ds : List (DataW H), (∀ k, S.cond = some k → k H ds = true) → Reached Tryd.prog fn.params.toList H ds → ok H ds)
    (witness : ∃ (w : World) (tape : Tape) (i : Input), w.os = os ∧ (w.forCall tape i).Shaped Tryd.prog ∧ i.vars = [] ∧ Input.okWide Tryd.prog (w.forCall tape i) .any w.heap.size f i ∧
      S.preRow enc Tryd.prog fn [] false laid (w.forCall tape i).memory i.args ∧ Assume.holds {} Tryd.prog (lone (Frame.enter Tryd.prog f i.args .normal) [] (w.forCall tape i)))
    (core : LawCoreG G f fn.params.toList ok) :
    ReturnsInHanded {} Tryd.checked os f .any (S.preRow enc Tryd.prog fn [] false laid) ((S.at F).post enc Tryd.prog fn false true false false) := by
  refine returnsInHanded_of_row (C := Tryd.checked) (s := S) frame_own started noInit hfn witness ?_
  intro W base args ds gs before hval hW _ hk hsz hL hsh _
  have hW0 : DataW.Whole enc Tryd.prog fn.params.toList s.vars false W args.toList ds gs before := hSv ▸ hW
  have hW1 := hW0
  obtain ⟨p, q, hA, hV, rfl, _, _⟩ := hW1
  have hA' : DataW.TrodAll enc Tryd.prog W 0 (fun _ => true) true fn.params.toList args.toList ds p := hA
  obtain rfl := vars_nil hv (show DataW.TrodVars enc Tryd.prog W (fun _ => true) s.vars gs q from hV)
  have hsz' : Reached Tryd.prog fn.params.toList H ds := by
    rw [hSb] at hsz
    show (DataW.weightsEach Tryd.checked.prog fn.params.toList ds).all (· ≤ reachBytes) = true
    simpa only [List.append_nil] using hsz
  refine (core H enc W base args ds p (hG W hL hsh) (fun j t v h1 h2 => hval j t v (by simpa using h1) h2) hA' (fun x hx => hW0.lt x (by simp [hx])) (hok ds (fun k hk' => by simpa using hk k hk') hsz')).mono fun e W' ⟨he, hb⟩ => ?_
  subst he
  rw [hS]
  exact ⟨_, rfl, frame_post (s := s) frame_laidOut hr hbt hres hv hW0 (by rw [List.append_nil]; exact hs ds (whole_len _ _ _ _ hA')) hb⟩

end Go.Proofs.YtmjglpdfkkmcoaaDoor

/-! The card AutoBoths: every input. No conditions. -/
namespace Go.Proofs.YtmjglpdfkkmcoaaDoor
open Go.ChangeShapes Go.WideShapes Go.ChangeAt Go.RowKit

def laidB : List (String × DataW Unit) := [("math/bits.deBruijn32tab", Rows.laid_math_bits_deBruijn32tab), ("math/bits.deBruijn64tab", Rows.laid_math_bits_deBruijn64tab), ("internal/strconv.uint64pow10", Rows.laid_internal_strconv_uint64pow10)]
theorem p10_tab : (Rows.laid_internal_strconv_uint64pow10 : DataW Unit) = Lib.tabData .u64 Lib.pow10Tab := by kernel_rfl
theorem p10_named : Tryd.prog.globalNamed "internal/strconv.uint64pow10" = some 2 := by kernel_rfl
theorem p10_type : (Tryd.prog.globals[2]?).map (·.type) = some 136 := by kernel_rfl
theorem p10_cells : Tryd.prog.cellsOf 136 = 20 := by kernel_rfl
theorem u64_cells : Tryd.prog.cellsOf 123 = 1 := by kernel_rfl
theorem gt_of_laid (W : World) (h : laidMetH Tryd.prog laidB W) : GT W := by
  have h1 : laidMetH Tryd.prog [("internal/strconv.uint64pow10", Rows.laid_internal_strconv_uint64pow10)] W := laidMetH.filter (fun x => x.1 == "internal/strconv.uint64pow10") h
  have h2 : laidMet Tryd.prog [("internal/strconv.uint64pow10", Lib.tabData .u64 Lib.pow10Tab)] W := by
    rw [p10_tab] at h1
    exact h1
  exact Lib.tabIs_of_head p10_named p10_type Tryd.underlying136 Tryd.underlying123 u64_cells p10_cells h2
theorem shaped_laidB (os : Os) (args : Array Value) : ((World.laidAll Tryd.prog os laidB).forCall (fun _ _ => 0) ⟨#[], args, []⟩).Shaped Tryd.prog := World.shaped_of_ZipB (by kernel_rfl) (by kernel_rfl)
theorem met_laidB (os : Os) (args : Array Value) : laidMetH Tryd.prog laidB ((World.laidAll Tryd.prog os laidB).forCall (fun _ _ => 0) ⟨#[], args, []⟩).memory := laidMet_laidAll _ (by kernel_rfl) (by kernel_rfl)
theorem witness_laidB {os : Os} {H : Type} {enc : TypeId × Value → H} {f : FuncId} {fn : Func} {S : OpenSpec} (args : Array Value) (fuel : Nat)
    (hok : Input.okWideB Tryd.prog ((World.laidAll Tryd.prog os laidB).forCall (fun _ _ => 0) ⟨#[], args, []⟩) f ⟨#[], args, []⟩ = true)
    {x : List (DataW H) × List (DataW H) × List MemPlace} (hx : DataW.whole enc Tryd.prog ((World.laidAll Tryd.prog os laidB).forCall (fun _ _ => 0) ⟨#[], args, []⟩).memory fn.params.toList S.vars false args.toList fuel = some x)
    (hkk : ∀ k, S.cond = some k → k H (x.1 ++ x.2.1) = true) (hsz : S.bare.sizedB enc Tryd.prog fn false ((World.laidAll Tryd.prog os laidB).forCall (fun _ _ => 0) ⟨#[], args, []⟩).memory args fuel = true) :
    ∃ (w : World) (tape : Tape) (i : Input), w.os = os ∧ (w.forCall tape i).Shaped Tryd.prog ∧ i.vars = [] ∧ Input.okWide Tryd.prog (w.forCall tape i) .any w.heap.size f i ∧
      S.preRow enc Tryd.prog fn [] false laidB (w.forCall tape i).memory i.args ∧ Assume.holds {} Tryd.prog (lone (Frame.enter Tryd.prog f i.args .normal) [] (w.forCall tape i)) :=
  ⟨World.laidAll Tryd.prog os laidB, fun _ _ => 0, ⟨#[], args, []⟩, World.laidAll_os _ _ _, shaped_laidB os args, (Input.okWide_of_okWideB (base := 0) hok).1, (Input.okWide_of_okWideB hok).2,
    OpenSpec.preRow_of_cond fuel hx rfl hkk hsz (met_laidB os args), by
    simp only [Assume.holds]
    exact ⟨by simp, by simp, fun _ => Modest.zero, by simp, by simp⟩⟩

theorem autoBoths_core : LawCoreG GT 4 Tryd.f4.params.toList (Reached Tryd.prog Tryd.f4.params.toList) := by
  refine coreG_of fun H enc W base args ds ps hval hA hlt _ => ?_
  obtain ⟨a, v, vs, d, ds', q, rfl, rfl, hp, _, _, hA', hlt', hval'⟩ := argS (t := 32) (ts := [32]) hval hA hlt reads_auto (by kernel_rfl)
  obtain ⟨w, v', vs', d', ds'', q', rfl, rfl, hp', _, _, hA'', _, _⟩ := argS (t := 32) (ts := []) hval' hA' hlt' reads_auto (by kernel_rfl)
  obtain ⟨rfl, rfl⟩ := arg0 hA''
  exact ⟨_, args_cons hp (args_cons hp' args_nil), autoBoths_law a.1 w.1 a.2.1 w.2.1⟩

theorem autoBoths_row : Rows.AutoBothsSaid :=
  OpenClaim.holds_of_cond 4 Tryd.f4 rfl rfl rfl rfl rfl rfl rfl ⟨rfl, rfl, rfl, rfl, rfl⟩ rfl rfl rfl rfl rfl (by kernel_rfl) Tryd.func4 (by kernel_rfl)
    (of_decide_eq_true (by kernel_rfl)) (by unfold Func.isWrapper; first | (rw [if_pos (by decide +kernel)]; kernel_rfl) | (rw [if_neg (by decide +kernel)]; exact ⟨rfl, rfl⟩))
    (fun os started H enc _ F => by
      rw [OpenClaim.pre_eq_preRow]
      exact frame_laid (S := OpenSpec.ofChange Rows.autoBothsSpec) (s := Rows.autoBothsSpec) (laid := laidB) started (by kernel_rfl) Tryd.func4 (bt := 4) (by kernel_rfl) rfl rfl (by kernel_rfl) (fun ds hd => by
        match ds, hd with
        | [_, _], _ => rfl) F rfl rfl rfl (fun W h _ => gt_of_laid W h) (fun ds _ h => h)
        (witness_laidB (enc := enc) (S := OpenSpec.ofChange Rows.autoBothsSpec) #[.agg #[.slice none 0 0, .slice none 0 0], .agg #[.slice none 0 0, .slice none 0 0]] 8 (by kernel_rfl) (x := ([.agg [.nil, .nil], .agg [.nil, .nil]], [], [])) (by kernel_rfl) (fun k hk => by cases hk) (by kernel_rfl)) autoBoths_core)

theorem autoBoths_holds : Rows.AutoBothsCardSaid :=
  Claim7.holds_tied_plain_at .later [] [.data, .data, .data] true (true, "a7899304926acb64250d46c14d8d872ed990a7378a337ead8432e528241babda") false autoBoths_row (fun _ h => by cases h) (by kernel_rfl) (fun _ h => by cases h) autoBoths_row_tie rfl ⟨rfl, rfl⟩ (by kernel_rfl) rfl
    (fun f fn hf hfn => by
      obtain rfl : f = 4 := Option.some.inj ((show Tryd.prog.funcNamed "bobbinet/bobbinetlaw.AutoBoths" = some 4 by kernel_rfl).symm.trans hf) |>.symm
      obtain rfl : fn = Tryd.f4 := (Option.some.inj (Tryd.func4.symm.trans hfn)).symm
      exact ⟨by kernel_rfl, fun j t ht => by
        have hall : (Tryd.f4.params.toList.all fun u => !Tryd.prog.wantsStandIn u) = true := by kernel_rfl
        have hm : t ∈ Tryd.f4.params.toList := by simpa using Array.mem_of_getElem? ht
        exact (show Tryd.prog.wantsStandIn t = false by simpa using List.all_eq_true.1 hall t hm)⟩)
    (by kernel_rfl)
end Go.Proofs.YtmjglpdfkkmcoaaDoor
