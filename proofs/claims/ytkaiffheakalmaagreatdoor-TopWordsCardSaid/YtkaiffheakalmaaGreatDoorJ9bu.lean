/- Whatever the input, TopWords returns true. No conditions. -/
import Derived.Test.YtkaiffheakalmaaGreatDoorJ9bt
import Derived.Test.YtkaiffheakalmaaGreatDoorTie
import Derived.Deep.DeepHandedRow
import Derived.Lay
import Derived.SevenTiedAt
import Derived.LaidSub
import Derived.Test.YtkaiffheakalmaaGreatDoorCards
set_option linter.unusedSimpArgs false
set_option linter.unusedVariables false
set_option maxRecDepth 100000
namespace Go.Proofs.YtkaiffheakalmaaGreatDoor
open Go.ChangeShapes Go.WideShapes Go.ChangeAt Go.RowKit
def Mm (G:World→Prop) (f:FuncId) (ts:List TypeId) (ok:(H:Type)→List (DataW H)→Prop):Prop:=
 ∀(H:Type) (enc:TypeId×Value→H) (W:World) (base:Nat) (args:Array Value) (ds:List (DataW H)) (ps:List MemPlace),G W→(∀(j:Nat) t v,ts[j]?=some t→args[j]?=some v→Value.okWide Tryz.prog W .any base t v)→
   DataW.TrodAll enc Tryz.prog W 0 (fun _=>true) true ts args.toList ds ps→
   (∀x∈ps,x.block < W.heap.size)→ok H ds→Calls Tryz.prog f args W fun e W'=>e= .returned (.bool true)∧Below W.heap.size W W'
theorem ZX {G:World→Prop} {f:FuncId} {ts:List TypeId} {ok:(H:Type)→List (DataW H)→Prop}
 (h:∀(H:Type) (enc:TypeId×Value→H) (W:World) (base:Nat) (args:List Value) (ds:List (DataW H)) (ps:List MemPlace),(∀(j:Nat) t v,ts[j]?=some t→args[j]?=some v→Value.okWide Tryz.prog W .any base t v)→
   DataW.TrodAll enc Tryz.prog W 0 (fun _=>true) true ts args ds ps→(∀x∈ps,x.block < W.heap.size)→ok H ds→∃xs,LW W args xs∧Fn1G Tryz.prog G f xs (fun r=>r= .bool true)):Mm G f ts ok:=by
 intro H enc W base args ds ps hG hval hA hlt hok
 obtain ⟨xs,hx,hf⟩:=h H enc W base args.toList ds ps (fun j t v h1 h2=>hval j t v h1 (by simpa using h2)) hA hlt hok
 have:=hf W (fun b=>b < W.heap.size) args.toList hG hx.1 hx.2 (fun _ h=>h)
 rw [Array.toArray_toList] at this
 refine this.mono ?_
 rintro e W' ⟨v,r,I',rfl,rfl,hp,_,hk⟩
 refine ⟨?_,⟨hk.os,hk.tape,hk.output,hk.size,fun k hlt=>hk.block k hlt (fun h=>h)⟩⟩
 cases hp
 rfl
set_option maxRecDepth 100000 in
theorem Ti {os:Os} (started:os.Started) {H:Type} {enc:TypeId×Value→H} {f:FuncId} {fn:Func} {S:OpenSpec} {s:ChangeSpec} {laid:List (String×DataW Unit)} {G:World→Prop} {ok:(H:Type)→List (DataW H)→Prop}
 (noInit:Tryz.prog.inits.idxOf? f=none) (hfn:Tryz.prog.funcs[f]?=some fn)
 {bt:TypeId} (hbt:Tryz.prog.underlying bt=some .bool) (hres:fn.resultTypes=#[bt]) (hv:s.vars=[]) (hr:fn.params.toList.all (fun t=>Tryz.prog.readableRec t&&decide (t < Tryz.prog.types.size))=true)
 (hs:∀ds:List (DataW H),ds.length=fn.params.toList.length→s.fn H ds={ results:=[.lit (.bool true)],args:=ds}) (F:Stop.Interp)
 (hS:S.at F=s) (hSv:S.vars=s.vars) (hSb:S.bare.plain.varTypes Tryz.checked.prog=[]) (hG:∀W,laidMetH Tryz.prog laid W→W.ShapedOpen Tryz.prog→G W)
 (hok:∀ds:List (DataW H),(∀k,S.cond=some k→k H ds=true)→P1 Tryz.prog fn.params.toList H ds→ok H ds)
 (witness:∃(w:World) (tape:Tape) (i:Input),w.os=os∧(w.forCall tape i).Shaped Tryz.prog∧i.vars=[]∧Input.okWide Tryz.prog (w.forCall tape i) .any w.heap.size f i∧
   S.preRow enc Tryz.prog fn [] false laid (w.forCall tape i).memory i.args∧Assume.holds {} Tryz.prog (lone (Frame.enter Tryz.prog f i.args .normal) [] (w.forCall tape i)))
 (core:Mm G f fn.params.toList ok):
 ReturnsInHanded {} Tryz.checked os f .any (S.preRow enc Tryz.prog fn [] false laid) ((S.at F).post enc Tryz.prog fn false true false false):=by
 refine returnsInHanded_of_row (C:=Tryz.checked) (s:=S) Wt started noInit hfn witness ?_
 intro W base args ds gs before hval hW _ hk hsz hL hsh _
 have hW0:DataW.Whole enc Tryz.prog fn.params.toList s.vars false W args.toList ds gs before:=hSv▸hW
 have hW1:=hW0
 obtain ⟨p,q,hA,hV,rfl,_,_⟩:=hW1
 have hA':DataW.TrodAll enc Tryz.prog W 0 (fun _=>true) true fn.params.toList args.toList ds p:=hA
 obtain rfl:=ZW hv (show DataW.TrodVars enc Tryz.prog W (fun _=>true) s.vars gs q from hV)
 have hsz':P1 Tryz.prog fn.params.toList H ds:=by
  rw [hSb] at hsz
  show (DataW.weightsEach Tryz.checked.prog fn.params.toList ds).all (·≤reachBytes)=true
  simpa only [List.append_nil] using hsz
 refine (core H enc W base args ds p (hG W hL hsh) (fun j t v h1 h2=>hval j t v (by simpa using h1) h2) hA' (fun x hx=>hW0.lt x (by simp [hx])) (hok ds (fun k hk'=>by simpa using hk k hk') hsz')).mono fun e W' ⟨he,hb⟩=>?_
 subst he
 rw [hS]
 exact ⟨_,rfl,Th (s:=s) N4 hr hbt hres hv hW0 (by rw [List.append_nil];exact hs ds (On _ _ _ _ hA')) hb⟩
theorem K5 (n:Nat):Reads Tryz.prog 22 AL (fun l=>∀x∈l,-9223372036854775808≤x∧x≤9223372036854775807) (fun _=>0) n:=by
 cases n with
 | zero=>exact Reads.zero
 | succ n=>exact (Rz (f:=V.int .i64) (z:=1) (by kernel_rfl) dl (fun _=>rfl) (by simp) (Oy (k:=.i64) (by kernel_rfl) n)).as id (fun _=>rfl) (fun l h x hx=>h.2 x hx) (fun _=>Nat.zero_le _)
def IN : List (String × DataW Unit) := [("math/bits.deBruijn32tab", Rows.laid_math_bits_deBruijn32tab), ("math/bits.deBruijn64tab", Rows.laid_math_bits_deBruijn64tab), ("internal/strconv.uint64pow10", Rows.laid_internal_strconv_uint64pow10)]
theorem dc:(Rows.laid_internal_strconv_uint64pow10:DataW Unit)=Lib.tabData .u64 Lib.pow10Tab:=by kernel_rfl
theorem Xq : Tryz.prog.globalNamed "internal/strconv.uint64pow10" = some 1 := by kernel_rfl
theorem aq:(Tryz.prog.globals[1]?).map (·.type)=some 195:=by kernel_rfl
theorem Xr:Tryz.prog.cellsOf 195=20:=by kernel_rfl
theorem Xs:Tryz.prog.cellsOf 162=1:=by kernel_rfl
theorem UK (W:World) (h:laidMetH Tryz.prog IN W):GT W:=by
 have h1 : laidMetH Tryz.prog [("internal/strconv.uint64pow10", Rows.laid_internal_strconv_uint64pow10)] W := laidMetH.filter (fun x => x.1 == "internal/strconv.uint64pow10") h
 have h2 : laidMet Tryz.prog [("internal/strconv.uint64pow10", Lib.tabData .u64 Lib.pow10Tab)] W := by
  rw [dc] at h1
  exact h1
 exact Lib.tabIs_of_head Xq aq Tryz.underlying195 Tryz.underlying162 Xs Xr h2
theorem Qe (os:Os) (args:Array Value):((World.laidAll Tryz.prog os IN).forCall (fun _ _=>0) ⟨#[],args,[]⟩).Shaped Tryz.prog:=World.shaped_of_ZipB (by kernel_rfl) (by kernel_rfl)
theorem Xt (os:Os) (args:Array Value):laidMetH Tryz.prog IN ((World.laidAll Tryz.prog os IN).forCall (fun _ _=>0) ⟨#[],args,[]⟩).memory:=laidMet_laidAll _ (by kernel_rfl) (by kernel_rfl)
theorem OA {os:Os} {H:Type} {enc:TypeId×Value→H} {f:FuncId} {fn:Func} {S:OpenSpec} (args:Array Value) (fuel:Nat)
 (hok:Input.okWideB Tryz.prog ((World.laidAll Tryz.prog os IN).forCall (fun _ _=>0) ⟨#[],args,[]⟩) f ⟨#[],args,[]⟩=true)
 {x:List (DataW H)×List (DataW H)×List MemPlace} (hx:DataW.whole enc Tryz.prog ((World.laidAll Tryz.prog os IN).forCall (fun _ _=>0) ⟨#[],args,[]⟩).memory fn.params.toList S.vars false args.toList fuel=some x)
 (hkk:∀k,S.cond=some k→k H (x.1++x.2.1)=true) (hsz:S.bare.sizedB enc Tryz.prog fn false ((World.laidAll Tryz.prog os IN).forCall (fun _ _=>0) ⟨#[],args,[]⟩).memory args fuel=true):
 ∃(w:World) (tape:Tape) (i:Input),w.os=os∧(w.forCall tape i).Shaped Tryz.prog∧i.vars=[]∧Input.okWide Tryz.prog (w.forCall tape i) .any w.heap.size f i∧
   S.preRow enc Tryz.prog fn [] false IN (w.forCall tape i).memory i.args∧Assume.holds {} Tryz.prog (lone (Frame.enter Tryz.prog f i.args .normal) [] (w.forCall tape i)):=
 ⟨World.laidAll Tryz.prog os IN,fun _ _=>0,⟨#[],args,[]⟩,World.laidAll_os _ _ _,Qe os args,(Input.okWide_of_okWideB (base:=0) hok).1,(Input.okWide_of_okWideB hok).2,
   OpenSpec.preRow_of_cond fuel hx rfl hkk hsz (Xt os args),by
   simp only [Assume.holds]
   exact ⟨by simp,by simp,fun _=>Modest.zero,by simp,by simp⟩⟩
theorem OB:Mm GT 4 Tryz.f4.params.toList (P1 Tryz.prog Tryz.f4.params.toList):=by
 refine ZX fun H enc W base args ds ps hval hA hlt _=>?_
 obtain ⟨a,v,vs,d,ds',q,rfl,rfl,hp,hb0,_,hA',hlt',hval'⟩:=fG (t:=22) (ts:=[3,22]) hval hA hlt K5 ⟨fun _=>rfl,by kernel_rfl⟩
 obtain ⟨k,v',vs',d',ds'',q',rfl,rfl,hp',hb1,_,hA'',hlt'',hval''⟩:=fG (t:=3) (ts:=[22]) hval' hA' hlt' (fun n=>Oy (k:=.i64) (by kernel_rfl) n) ⟨fun _=>rfl,by kernel_rfl⟩
 obtain ⟨w,v3,vs3,d3,ds3,q3,rfl,rfl,hp3,hb2,_,hA3,_,_⟩:=fG (t:=22) (ts:=[]) hval'' hA'' hlt'' K5 ⟨fun _=>rfl,by kernel_rfl⟩
 obtain ⟨rfl,rfl⟩:=jy hA3
 exact ⟨_,KR hp (KR hp' (KR hp3 Za)),Qm a w k hb0 hb2 hb1⟩
theorem Qf:Rows.TopWordsSaid:=
 OpenClaim.holds_of_cond 4 Tryz.f4 rfl rfl rfl rfl rfl rfl rfl ⟨rfl,rfl,rfl,rfl,rfl⟩ rfl rfl rfl rfl rfl (by kernel_rfl) Tryz.func4 (by kernel_rfl)
  (of_decide_eq_true (by kernel_rfl)) (by unfold Func.isWrapper;first|(rw [if_pos (by decide +kernel)];kernel_rfl)|(rw [if_neg (by decide +kernel)];exact ⟨rfl,rfl⟩))
  (fun os started H enc _ F=>by
    rw [OpenClaim.pre_eq_preRow]
    exact Ti (S:=OpenSpec.ofChange Rows.topWordsSpec) (s:=Rows.topWordsSpec) (laid:=IN) started (by kernel_rfl) Tryz.func4 (bt:=4) (by kernel_rfl) rfl rfl (by kernel_rfl) (fun ds hd=>by
     match ds,hd with
     | [_,_,_],_=>rfl) F rfl rfl rfl (fun W h _=>UK W h) (fun ds _ h=>h)
     (OA (enc:=enc) (S:=OpenSpec.ofChange Rows.topWordsSpec) #[.slice none 0 0,.int .i64 0,.slice none 0 0] 8 (by kernel_rfl) (x:=([.nil,.lit (.int .i64 0),.nil],[],[])) (by kernel_rfl) (fun k hk=>by cases hk) (by kernel_rfl)) OB)
theorem topWords_holds:Rows.TopWordsCardSaid:=
 Claim7.holds_tied_plain_at .later [] [.data, .data, .data] true (true, "1018ef2467da2bbb1c00db7004bf24ca5396815042a9523a5d8a884687b04217") false Qf (fun _ h => by cases h) (by kernel_rfl) (fun _ h => by cases h) topWords_row_tie rfl ⟨rfl, rfl⟩ (by kernel_rfl) rfl
  (fun f fn hf hfn=>by
    obtain rfl : f = 4 := Option.some.inj ((show Tryz.prog.funcNamed "bobbinet/bobbinettop.TopWords" = some 4 by kernel_rfl).symm.trans hf) |>.symm
    obtain rfl:fn=Tryz.f4:=(Option.some.inj (Tryz.func4.symm.trans hfn)).symm
    exact ⟨by kernel_rfl,fun j t ht=>by
     have hall:(Tryz.f4.params.toList.all fun u=>!Tryz.prog.wantsStandIn u)=true:=by kernel_rfl
     have hm:t∈Tryz.f4.params.toList:=by simpa using Array.mem_of_getElem? ht
     exact (show Tryz.prog.wantsStandIn t=false by simpa using List.all_eq_true.1 hall t hm)⟩)
  (by kernel_rfl)
end Go.Proofs.YtkaiffheakalmaaGreatDoor
