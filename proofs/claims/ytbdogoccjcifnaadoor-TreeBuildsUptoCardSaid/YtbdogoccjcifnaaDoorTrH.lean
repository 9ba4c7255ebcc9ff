/- The card TreeBuilds, where what it reads is of bulk at most 1048576: every such input. No conditions. -/
import Derived.Test.YtbdogoccjcifnaaDoorLaw
import Derived.Test.YtbdogoccjcifnaaDoorTie
import Derived.Deep.DeepHandedRow
import Derived.Lay
import Derived.SevenTiedAt
import Derived.LaidSub
import Derived.Test.YtbdogoccjcifnaaDoorTrG
import Derived.Test.YtbdogoccjcifnaaDoorCards
/-! The frame of a law whose row lists package-level variables with their content: from a contract in such worlds to the given statement. No conditions. -/
set_option linter.unusedSimpArgs false
set_option linter.unusedVariables false
set_option maxRecDepth 100000
namespace Go.Proofs.YtbdogoccjcifnaaDoor
open Go.ChangeShapes Go.WideShapes Go.ChangeAt Go.RowKit

/-- The core that a law owes, in worlds of G. -/
def LawCoreG (G : World → Prop) (f : FuncId) (ts : List TypeId) (ok : (H : Type) → List (DataW H) → Prop) : Prop :=
  ∀ (H : Type) (enc : TypeId × Value → H) (W : World) (base : Nat) (args : Array Value) (ds : List (DataW H)) (ps : List MemPlace), G W → (∀ (j : Nat) t v, ts[j]? = some t → args[j]? = some v → Value.okWide Tryd.prog W .any base t v) →
    DataW.TrodAll enc Tryd.prog W 0 (fun _ => true) true ts args.toList ds ps →
    (∀ x ∈ ps, x.block < W.heap.size) → ok H ds → Calls Tryd.prog f args W fun e W' => e = .returned (.bool true) ∧ Below W.heap.size W W'

theorem coreG_of {G : World → Prop} {f : FuncId} {ts : List TypeId} {ok : (H : Type) → List (DataW H) → Prop}
    (h : ∀ (H : Type) (enc : TypeId × Value → H) (W : World) (base : Nat) (args : List Value) (ds : List (DataW H)) (ps : List MemPlace), (∀ (j : Nat) t v, ts[j]? = some t → args[j]? = some v → Value.okWide Tryd.prog W .any base t v) →
      DataW.TrodAll enc Tryd.prog W 0 (fun _ => true) true ts args ds ps → (∀ x ∈ ps, x.block < W.heap.size) → ok H ds → ∃ xs, ArgsAre W args xs ∧ Fn1G Tryd.prog G f xs (fun r => r = .bool true)) : LawCoreG G f ts ok := by
  intro H enc W base args ds ps hG hval hA hlt hok
  obtain ⟨xs, hx, hf⟩ := h H enc W base args.toList ds ps (fun j t v h1 h2 => hval j t v h1 (by simpa using h2)) hA hlt hok
  have := hf W (fun b => b < W.heap.size) args.toList hG hx.1 hx.2 (fun _ h => h)
  rw [Array.toArray_toList] at this
  refine this.mono ?_
  rintro e W' ⟨v, r, I', rfl, rfl, hp, _, hk⟩
  refine ⟨?_, ⟨hk.os, hk.tape, hk.output, hk.size, fun k hlt => hk.block k hlt (fun h => h)⟩⟩
  cases hp
  rfl

theorem args_small {H : Type} {d : DataW H} (h : Rows.uptoSmall H [d] = true) : Rows.uptoBulk d ≤ 1048576 := by
  have := of_decide_eq_true h
  simpa [Rows.uptoBulkAll] using this

set_option maxRecDepth 100000 in
theorem frame_laid {os : Os} (started : os.Started) {H : Type} {enc : TypeId × Value → H} {f : FuncId} {fn : Func} {S : OpenSpec} {s : ChangeSpec} {laid : List (String × DataW Unit)} {G : World → Prop} {ok : (H : Type) → List (DataW H) → Prop}
    (noInit : Tryd.prog.inits.idxOf? f = none) (hfn : Tryd.prog.funcs[f]? = some fn)
    {bt : TypeId} (hbt : Tryd.prog.underlying bt = some .bool) (hres : fn.resultTypes = #[bt]) (hv : s.vars = []) (hr : fn.params.toList.all (fun t => Tryd.prog.readableRec t && decide (t < Tryd.prog.types.size)) = true)
    (hs : ∀ ds : List (DataW H), ds.length = fn.params.toList.length → s.fn H ds = { results := [.lit (.bool true)], args := ds }) (F : Stop.Interp)
    (hS : S.at F = s) (hSv : S.vars = s.vars) (hSb : S.bare.plain.varTypes Tryd.checked.prog = []) (hG : ∀ W, laidMetH Tryd.prog laid W → W.ShapedOpen Tryd.prog → G W)
    (hok : ∀ ds : List (DataW H), (∀ k, S.cond = some k → k H ds = true) → Reached Tryd.prog fn.params.toList H ds → ok H ds)
    (witness : ∃ (w : World) (tape : Tape) (i : Input), w.os = os ∧ (w.forCall tape i).Shaped Tryd.prog ∧ i.vars = [] ∧ Input.okWide Tryd.prog (w.forCall tape i) .any w.heap.size f i ∧
      S.preRow enc Tryd.prog fn [] false laid (w.forCall tape i).memory i.args ∧ Assume.holds {} Tryd.prog (lone (Frame.enter Tryd.prog f i.args .normal) [] (w.forCall tape i)))
    (core : LawCoreG G f fn.params.toList ok) :
    ReturnsInHanded {} Tryd.checked os f .any (S.preRow enc Tryd.prog fn [] false laid) ((S.at F).post enc Tryd.prog fn false true false false) := by
  refine returnsInHanded_of_row (C := Tryd.checked) (s := S) frame_own started noInit hfn witness ?_
  intro W base args ds gs before hval hW _ hk hsz hL hsh _
  have hW0 : DataW.Whole enc Tryd.prog fn.params.toList s.vars false W args.toList ds gs before := hSv ▸ hW
  have hW1 := hW0
  obtain ⟨p, q, hA, hV, rfl, _, _⟩ := hW1
  have hA' : DataW.TrodAll enc Tryd.prog W 0 (fun _ => true) true fn.params.toList args.toList ds p := hA
  obtain rfl := vars_nil hv (show DataW.TrodVars enc Tryd.prog W (fun _ => true) s.vars gs q from hV)
  have hsz' : Reached Tryd.prog fn.params.toList H ds := by
    rw [hSb] at hsz
    show (DataW.weightsEach Tryd.checked.prog fn.params.toList ds).all (· ≤ reachBytes) = true
    simpa only [List.append_nil] using hsz
  refine (core H enc W base args ds p (hG W hL hsh) (fun j t v h1 h2 => hval j t v (by simpa using h1) h2) hA' (fun x hx => hW0.lt x (by simp [hx])) (hok ds (fun k hk' => by simpa using hk k hk') hsz')).mono fun e W' ⟨he, hb⟩ => ?_
  subst he
  rw [hS]
  exact ⟨_, rfl, frame_post (s := s) frame_laidOut hr hbt hres hv hW0 (by rw [List.append_nil]; exact hs ds (whole_len _ _ _ _ hA')) hb⟩

end Go.Proofs.YtbdogoccjcifnaaDoor

/-! The card TreeBuilds, where what it reads is of bulk at most 1048576: every such input. No conditions. -/
namespace Go.Proofs.YtbdogoccjcifnaaDoor
open Go.ChangeShapes Go.WideShapes Go.ChangeAt Go.RowKit

def szT (t : Tk) : Nat := t.text.length + t.attrs.length
theorem len_szA (l : List Atr) : l.length ≤ (l.map szA).sum := by
  induction l with
  | nil => exact Nat.le_refl _
  | cons a l ih =>
    have : 1 ≤ szA a := by unfold szA; omega
    simp only [List.length_cons, List.map_cons, List.sum_cons]
    omega
theorem reads_tok (n : Nat) : Reads Tryd.prog 39 tokA (fun _ => True) szT n := by
  cases n with
  | zero => exact Reads.zero
  | succ n =>
    obtain ⟨fs, hu, hs⟩ := fields_of (P := Tryd.prog) (t := 39) (sig := [(3, 0), (9, 1), (37, 2), (4, 3), (9, 4)]) (by kernel_rfl)
    obtain ⟨f0, r0, rfl, t0, o0, hs⟩ := fields_cons hs
    obtain ⟨f1, r1, rfl, t1, o1, hs⟩ := fields_cons hs
    obtain ⟨f2, r2, rfl, t2, o2, hs⟩ := fields_cons hs
    obtain ⟨f3, r3, rfl, t3, o3, hs⟩ := fields_cons hs
    obtain ⟨f4, r4, rfl, t4, o4, hs⟩ := fields_cons hs
    obtain rfl := fields_nil hs
    refine (reads_struct (L := 5) hu cells_39 (g := fun x : Int × List UInt8 × List Atr × Bool × List UInt8 × Unit => (V.int .i64 x.1).cells ++ ((V.str x.2.1).cells ++ ((V.lst (List.map attA x.2.2.1)).cells ++ ((V.bool x.2.2.2.1).cells ++ ((V.str x.2.2.2.2.1).cells ++ []))))) (fun _ => rfl)
      (reads_fs_cons (f := V.int .i64) (z := 1) o0 (by rw [t0]; exact cells_3) (fun _ => rfl) (by rw [t0]; exact reads_int (k := .i64) (by kernel_rfl) n)
      (reads_fs_cons (f := V.str) (z := 1) o1 (by rw [t1]; exact cells_9) (fun _ => rfl) (by rw [t1]; exact reads_str (by kernel_rfl) n)
      (reads_fs_cons (f := fun l : List Atr => V.lst (List.map attA l)) (z := 1) o2 (by rw [t2]; exact cells_37) (fun _ => rfl) (by rw [t2]; exact reads_atts n)
      (reads_fs_cons (f := V.bool) (z := 1) o3 (by rw [t3]; exact cells_4) (fun _ => rfl) (by rw [t3]; exact reads_bool (by kernel_rfl) n)
      (reads_fs_cons (f := V.str) (z := 1) o4 (by rw [t4]; exact cells_9) (fun _ => rfl) (by rw [t4]; exact reads_str (by kernel_rfl) n) reads_fs_nil)))))).as (fun x => (⟨x.1, x.2.1, x.2.2.1, x.2.2.2.1, x.2.2.2.2.1⟩ : Tk)) (fun _ => rfl) (fun _ _ => trivial) (fun x => ?_)
    have := len_szA x.2.2.1
    simp only [szT]
    omega
def totS (l : List Tk) : Nat := (l.map szT).sum
theorem reads_toks (n : Nat) : Reads Tryd.prog 22 (fun l : List Tk => .lst (l.map tokA)) (fun _ => True) (fun l => totS l) n := by
  cases n with
  | zero => exact Reads.zero
  | succ n => exact (reads_slice (f := tokA) (z := 5) (by kernel_rfl) cells_39 (fun _ => rfl) (by simp) (reads_tok n)).as id (fun _ => rfl) (fun _ _ => trivial) (fun l => by simp [totS])
theorem totS_T (l : List Tk) : totT l ≤ totS l := by
  unfold totT totS
  induction l with
  | nil => exact Nat.le_refl _
  | cons t l ih => simp only [List.map_cons, List.sum_cons]; unfold szT; unfold szT at ih; omega
theorem totS_A (l : List Tk) : ∀ t ∈ l, t.attrs.length ≤ totS l := by
  unfold totS
  induction l with
  | nil => intro t h; cases h
  | cons x l ih =>
    intro t h
    simp only [List.map_cons, List.sum_cons]
    rcases List.mem_cons.1 h with rfl | h
    · unfold szT; omega
    · have := ih t h; omega

/-! ### The two variables -/
theorem gb_of_laid {name : String} {L : List (List UInt8)} {g : Nat} {t e : TypeId} (hg : Tryd.prog.globalNamed name = some g) (hty : (Tryd.prog.globals[g]?).map (·.type) = some t) (ht : Tryd.prog.underlying t = some (.array L.length e)) (he : Tryd.prog.underlying e = some .string) (hce : Tryd.prog.cellsOf e = 1)
    {W : World} (h : laidMet Tryd.prog [(name, .agg (L.map fun x => .lit (.string x)))] W) : GB g L W := by
  obtain ⟨ps, ⟨g', t', cs, fuel, p, q, hg', ht', hvar, hd, _, _⟩, _⟩ := h
  obtain rfl := Option.some.inj (hg.symm.trans hg')
  obtain rfl := Option.some.inj (hty.symm.trans ht')
  refine ⟨?_, fun j x hx => ?_⟩
  · simp only [World.var?, hg, Option.bind_some] at hvar
    split at hvar
    · rename_i cs' _ _ hb
      exact (Array.getElem?_eq_some_iff.1 hb).1
    · cases hvar
  · obtain ⟨xs, m, _, ex, _, hl, hel⟩ := DataW.trod_array ht hd
    have hj : j < L.length := (List.getElem?_eq_some_iff.1 hx).1
    have hE := hel j hj
    rw [hce, Nat.mul_one, List.getElem?_eq_getElem (by omega)] at hE
    obtain ⟨s, e1, e2, e5⟩ := DataW.trod_string he hE
    have e3 : (xs.map (·.1)) = L.map fun n => .lit (.string n) := (DataW.agg.inj (Prod.mk.inj ex).1).symm
    have e4 : (xs.map (·.1))[j]? = (L.map fun n => (DataW.lit (.string n) : DataW Unit))[j]? := by rw [e3]
    rw [List.getElem?_map, List.getElem?_map, List.getElem?_eq_getElem (by omega : j < xs.length), hx, e2] at e4
    have hz : s.data.toList = x := by simpa using e4
    refine ⟨s, ?_, hz, e5⟩
    rw [World.var?_cell hg hvar j]
    have h0 : ((cs.toList.drop j).take 1)[0]? = some (.string s) := by rw [e1]; rfl
    simpa using h0
def laidT : List (String × DataW Unit) := [("bobbinet/tree.blocks", Rows.laid_bobbinet_tree_blocks), ("bobbinet/tree.voids", Rows.laid_bobbinet_tree_voids)]
theorem blk_data : (Rows.laid_bobbinet_tree_blocks : DataW Unit) = .agg (blkL.map fun x => .lit (.string x)) := rfl
theorem vod_data : (Rows.laid_bobbinet_tree_voids : DataW Unit) = .agg (vodL.map fun x => .lit (.string x)) := rfl
theorem gt_of_laid (W : World) (h : laidMetH Tryd.prog laidT W) : GT W := by
  have h1 : laidMetH Tryd.prog [("bobbinet/tree.blocks", Rows.laid_bobbinet_tree_blocks)] W := laidMetH.filter (fun x => x.1 == "bobbinet/tree.blocks") h
  have h2 : laidMetH Tryd.prog [("bobbinet/tree.voids", Rows.laid_bobbinet_tree_voids)] W := laidMetH.filter (fun x => x.1 == "bobbinet/tree.voids") h
  have h3 : laidMet Tryd.prog [("bobbinet/tree.blocks", .agg (blkL.map fun x => .lit (.string x)))] W := by rw [blk_data] at h1; exact h1
  have h4 : laidMet Tryd.prog [("bobbinet/tree.voids", .agg (vodL.map fun x => .lit (.string x)))] W := by rw [vod_data] at h2; exact h2
  exact ⟨gb_of_laid (t := 56) (e := 9) (by kernel_rfl) (by kernel_rfl) (by kernel_rfl) (by kernel_rfl) (by kernel_rfl) h3, gb_of_laid (t := 61) (e := 9) (by kernel_rfl) (by kernel_rfl) (by kernel_rfl) (by kernel_rfl) (by kernel_rfl) h4⟩
theorem shaped_laidT (os : Os) (args : Array Value) : ((World.laidAll Tryd.prog os laidT).forCall (fun _ _ => 0) ⟨#[], args, []⟩).Shaped Tryd.prog := World.shaped_of_ZipB (by kernel_rfl) (by kernel_rfl)
theorem met_laidT (os : Os) (args : Array Value) : laidMetH Tryd.prog laidT ((World.laidAll Tryd.prog os laidT).forCall (fun _ _ => 0) ⟨#[], args, []⟩).memory := laidMet_laidAll _ (by kernel_rfl) (by kernel_rfl)
theorem witness_laidT {os : Os} {H : Type} {enc : TypeId × Value → H} {f : FuncId} {fn : Func} {S : OpenSpec} (args : Array Value) (fuel : Nat)
    (hok : Input.okWideB Tryd.prog ((World.laidAll Tryd.prog os laidT).forCall (fun _ _ => 0) ⟨#[], args, []⟩) f ⟨#[], args, []⟩ = true)
    {x : List (DataW H) × List (DataW H) × List MemPlace} (hx : DataW.whole enc Tryd.prog ((World.laidAll Tryd.prog os laidT).forCall (fun _ _ => 0) ⟨#[], args, []⟩).memory fn.params.toList S.vars false args.toList fuel = some x)
    (hkk : ∀ k, S.cond = some k → k H (x.1 ++ x.2.1) = true) (hsz : S.bare.sizedB enc Tryd.prog fn false ((World.laidAll Tryd.prog os laidT).forCall (fun _ _ => 0) ⟨#[], args, []⟩).memory args fuel = true) :
    ∃ (w : World) (tape : Tape) (i : Input), w.os = os ∧ (w.forCall tape i).Shaped Tryd.prog ∧ i.vars = [] ∧ Input.okWide Tryd.prog (w.forCall tape i) .any w.heap.size f i ∧
      S.preRow enc Tryd.prog fn [] false laidT (w.forCall tape i).memory i.args ∧ Assume.holds {} Tryd.prog (lone (Frame.enter Tryd.prog f i.args .normal) [] (w.forCall tape i)) :=
  ⟨World.laidAll Tryd.prog os laidT, fun _ _ => 0, ⟨#[], args, []⟩, World.laidAll_os _ _ _, shaped_laidT os args, (Input.okWide_of_okWideB (base := 0) hok).1, (Input.okWide_of_okWideB hok).2,
    OpenSpec.preRow_of_cond fuel hx rfl hkk hsz (met_laidT os args), by
    simp only [Assume.holds]
    exact ⟨by simp, by simp, fun _ => Modest.zero, by simp, by simp⟩⟩

theorem treeBuilds_core : LawCoreG GT 3 Tryd.f3.params.toList (fun H ds => Rows.uptoSmall H ds = true) := by
  refine coreG_of fun H enc W base args ds ps hval hA hlt hok => ?_
  obtain ⟨a, v, vs, d, ds', q, rfl, rfl, hp, _, hsz, hA', _, _⟩ := arg1 (t := 22) (ts := []) hval hA hlt reads_toks ⟨fun _ => rfl, by kernel_rfl⟩
  obtain ⟨rfl, rfl⟩ := arg0 hA'
  have hb := args_small hok
  have h1 := totS_T a
  exact ⟨_, args_cons hp args_nil, treeBuilds_law a (by omega) (fun t ht => by have := totS_A a t ht; omega)⟩

theorem treeBuilds_row : Rows.TreeBuildsUptoSaid :=
  OpenClaim.holds_of_cond 3 Tryd.f3 rfl rfl rfl rfl rfl rfl rfl ⟨rfl, rfl, rfl, rfl, rfl⟩ rfl rfl rfl rfl rfl (by kernel_rfl) Tryd.func3 (by kernel_rfl)
    (of_decide_eq_true (by kernel_rfl)) (by unfold Func.isWrapper; first | (rw [if_pos (by decide +kernel)]; kernel_rfl) | (rw [if_neg (by decide +kernel)]; exact ⟨rfl, rfl⟩))
    (fun os started H enc _ F => by
      rw [OpenClaim.pre_eq_preRow]
      exact frame_laid (S := Rows.OpenSpec.upto Rows.treeBuildsSpec) (s := Rows.treeBuildsSpec) (laid := laidT) started (by kernel_rfl) Tryd.func3 (bt := 4) (by kernel_rfl) rfl rfl (by kernel_rfl) (fun ds hd => by
        match ds, hd with
        | [_], _ => rfl) F rfl rfl rfl (fun W h _ => gt_of_laid W h) (fun ds h _ => h Rows.uptoSmall rfl)
        (witness_laidT (enc := enc) (S := Rows.OpenSpec.upto Rows.treeBuildsSpec) #[.slice none 0 0] 8 (by kernel_rfl) (x := ([.nil], [], [])) (by kernel_rfl) (fun k hk => by cases hk; rfl) (by kernel_rfl)) treeBuilds_core)

theorem treeBuilds_holds : Rows.TreeBuildsUptoCardSaid :=
  Claim7.holds_tied_plain_at .later [] [.widerDeep, .widerDeep] true (true, "113c6f0143bf83009e8a87772e92a1c989a0963c34d4b474f33b5a5a466112ef") false treeBuilds_row (fun _ h => by cases h) (by kernel_rfl) (fun _ h => by cases h) treeBuildsUpto_row_tie rfl ⟨rfl, rfl⟩ (by kernel_rfl) rfl
    (fun f fn hf hfn => by
      obtain rfl : f = 3 := Option.some.inj ((show Tryd.prog.funcNamed "bobbinet/bobbinetlaw.TreeBuilds" = some 3 by kernel_rfl).symm.trans hf) |>.symm
      obtain rfl : fn = Tryd.f3 := (Option.some.inj (Tryd.func3.symm.trans hfn)).symm
      exact ⟨by kernel_rfl, fun j t ht => by
        have hall : (Tryd.f3.params.toList.all fun u => !Tryd.prog.wantsStandIn u) = true := by kernel_rfl
        have hm : t ∈ Tryd.f3.params.toList := by simpa using Array.mem_of_getElem? ht
        exact (show Tryd.prog.wantsStandIn t = false by simpa using List.all_eq_true.1 hall t hm)⟩)
    (by kernel_rfl)
end Go.Proofs.YtbdogoccjcifnaaDoor
