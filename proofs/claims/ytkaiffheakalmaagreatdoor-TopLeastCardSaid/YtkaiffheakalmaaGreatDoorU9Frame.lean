/- Copied, stripped. No conditions. -/
import Derived.Test.YtkaiffheakalmaaGreatDoorRows
import Derived.WalkKit
import Derived.ProofKit
import Derived.OpenShut
import Derived.JoinedCond
import Derived.Deep.CondSized
import Derived.SizedLaws
set_option linter.unusedSimpArgs false
set_option linter.unusedVariables false
set_option maxRecDepth 100000
namespace Go.Proofs.YtkaiffheakalmaaGreatDoor
open Go.ChangeShapes Go.WideShapes Go.ChangeAt Go.RowKit
theorem Ug:ownKnob Tryz.prog.godebug=none:=by kernel_rfl
theorem Mr:laidOutB Tryz.prog=true:=by kernel_rfl
theorem LZ {H:Type} {enc:TypeId×Value→H} {P:Program} (hl:laidOutB P=true) {W W':World} (hb:Below W.heap.size W W'):
    ∀(ts:List TypeId) (vs:List Value) (ds:List (DataW H)) (ps:List MemPlace),(∀t∈ts,P.readableRec t=true∧t < P.types.size)→
      DataW.TrodAll enc P W 0 (fun _=>true) true ts vs ds ps→(∀x∈ps,x.block < W.heap.size)→
      DataW.TrodAll enc P W' 0 (fun b=>decide (b < W.heap.size)) true ts vs ds ps
  | [],[],[],ps,_,h,_=>h
  | t::ts,v::vs,d::ds,ps,hr,h,hlt=>by
    obtain ⟨p,q,h1,h2,rfl⟩:=h
    exact ⟨p,q,Below.trod hl (hr t (by simp)).1 (hr t (by simp)).2 h1 hb (fun x hx=>hlt x (by simp [hx])),
      LZ hl hb ts vs ds q (fun t ht=>hr t (by simp [ht])) h2 (fun x hx=>hlt x (by simp [hx])),rfl⟩
  | [],_::_,_,_,_,h,_=>by simp [DataW.TrodAll] at h
  | [],[],_::_,_,_,h,_=>by simp [DataW.TrodAll] at h
  | _::_,[],_,_,_,h,_=>by simp [DataW.TrodAll] at h
  | _::_,_::_,[],_,_,h,_=>by simp [DataW.TrodAll] at h
theorem Rc {H:Type} {enc:TypeId×Value→H} {P:Program} {fn:Func} {s:ChangeSpec} {bt:TypeId} (hl:laidOutB P=true)
    (hr0:fn.params.toList.all (fun t=>P.readableRec t&&decide (t < P.types.size))=true) (hbt:P.underlying bt=some .bool) (hres:fn.resultTypes=#[bt]) (hv:s.vars=[])
    {W W':World} {args:Array Value} {ds gs:List (DataW H)} {before:List MemPlace} (hW:DataW.Whole enc P fn.params.toList s.vars false W args.toList ds gs before)
    (hs:s.fn H (ds++gs)={ results:=[.lit (.bool true)],args:=ds}) (hb:Below W.heap.size W W'):s.post enc P fn false true false false W args (.bool true) W':=by
  have hr:∀t∈fn.params.toList,P.readableRec t=true∧t < P.types.size:=fun t ht=>by simpa using List.all_eq_true.1 hr0 t ht
  have hW':=hW
  obtain ⟨p,q,hA,hV,rfl,_,_⟩:=hW
  refine ⟨ds,gs,p++q,[],p,[],hW',?_,?_,?_,?_,?_⟩
  . rw [hs,hres]
    exact trodAll_mk1 (shut_bool hbt true)
  . rw [hs]
    exact LZ hl hb _ _ _ _ hr hA (fun x hx=>hW'.lt x (by simp [hx]))
  . rw [hs,hv]
    exact rfl
  . exact hb.frame _
  . intro h
    cases h
theorem NW {H:Type} {enc:TypeId×Value→H} {P:Program} {w:World} {b:Nat} {sp:Nat→Bool} {hd:Bool}:∀(ts:List TypeId) (vs:List Value) (ds:List (DataW H)) (ps:List MemPlace),DataW.TrodAll enc P w b sp hd ts vs ds ps→ds.length=ts.length
  | [],[],[],_,_=>rfl
  | t::ts,v::vs,d::ds,ps,h=>by
    obtain ⟨p,q,_,h2,_⟩:=h
    simp [NW ts vs ds q h2]
  | [],_::_,_,_,h=>by simp [DataW.TrodAll] at h
  | [],[],_::_,_,h=>by simp [DataW.TrodAll] at h
  | _::_,[],_,_,h=>by simp [DataW.TrodAll] at h
  | _::_,_::_,[],_,h=>by simp [DataW.TrodAll] at h
theorem Wt {H:Type} {enc:TypeId×Value→H} {P:Program} {w:World} {sp:Nat→Bool} {gs:List (DataW H)} {q:List MemPlace} {vars:List String} (hv:vars=[]) (h:DataW.TrodVars enc P w sp vars gs q):gs=[]:=by
  subst hv
  cases gs with
  | nil=>rfl
  | cons g gs=>simp [DataW.TrodVars] at h
def OL (P:Program) (ts:List TypeId) (H:Type) (ds:List (DataW H)):Prop:=(DataW.weightsEach P ts ds).all (·≤reachBytes)=true
end Go.Proofs.YtkaiffheakalmaaGreatDoor
