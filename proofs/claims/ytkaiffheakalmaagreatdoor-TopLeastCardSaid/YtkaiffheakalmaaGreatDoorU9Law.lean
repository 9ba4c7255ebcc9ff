/- Copied, stripped. No conditions. -/
import Derived.Test.YtkaiffheakalmaaGreatDoorU9Frame
import Derived.Test.YtkaiffheakalmaaGreatDoorU9Read
set_option linter.unusedSimpArgs false
set_option linter.unusedVariables false
set_option maxRecDepth 100000
namespace Go.Proofs.YtkaiffheakalmaaGreatDoor
open Go.RowKit Go.WideShapes
theorem Rd {P:Program} {w:World} {base:Nat} {t:TypeId} {v:Value} (ht:(match P.underlying t with|some (.slice _)=>true|some .string=>true|some (.int _)=>true|some .bool=>true|some (.pointer _)=>true|_=>false)=true)
    (h:Value.okWide P w .any base t v):v.cells=#[v]:=by
  cases hu:P.underlying t with
  | none=>simp [hu] at ht
  | some u=>
    cases u with
    | slice e=>obtain ⟨a,l,c,rfl⟩:=okWide_slice hu h;rfl
    | string=>obtain ⟨s,rfl⟩:=okWide_string hu h;rfl
    | int k=>obtain ⟨n,rfl⟩:=okWide_int hu h;rfl
    | bool=>obtain ⟨b,rfl⟩:=okWide_bool hu h;rfl
    | pointer e=>obtain ⟨a,rfl⟩:=okWide_pointer hu h;rfl
    | _=>simp [hu] at ht
def KL (w:World) (vs:List Value) (xs:List V):Prop:=xs.length=vs.length∧∀(i:Nat) (v:Value) (x:V),vs[i]?=some v→xs[i]?=some x→Pr w (fun b=>b < w.heap.size) v x
theorem Wu {w:World}:KL w [] []:=⟨rfl,fun i v x h=>by simp at h⟩
theorem JI {w:World} {v:Value} {x:V} {vs:List Value} {xs:List V} (h:Pr w (fun b=>b < w.heap.size) v x) (k:KL w vs xs):KL w (v::vs) (x::xs):=
  ⟨by simp [k.1],fun i u y hu hy=>by
    cases i with
    | zero=>simp at hu hy;subst hu;subst hy;exact h
    | succ i=>exact k.2 i u y (by simpa using hu) (by simpa using hy)⟩
theorem dV {H:Type} {enc:TypeId×Value→H} {P:Program} {W:World} {base:Nat} {t:TypeId} {ts:List TypeId} {args:List Value} {ds:List (DataW H)} {ps:List MemPlace}
    (hval:∀(j:Nat) t' v,(t::ts)[j]?=some t'→args[j]?=some v→Value.okWide P W .any base t' v)
    (h:DataW.TrodAll enc P W 0 (fun _=>true) true (t::ts) args ds ps) (hlt:∀x∈ps,x.block < W.heap.size) {α:Type} {f:α→V} {ok:α→Prop} {sz:α→Nat} (hr:∀n,Reads P t f ok sz n)
    (hf:(∀a,(f a).cells=[f a])∧(match P.underlying t with|some (.slice _)=>true|some .string=>true|some (.int _)=>true|some .bool=>true|some (.pointer _)=>true|_=>false)=true):
    ∃a v vs d ds' q,args=v::vs∧ds=d::ds'∧Pr W (fun b=>b < W.heap.size) v (f a)∧ok a∧sz a≤Rows.uptoBulk d∧DataW.TrodAll enc P W 0 (fun _=>true) true ts vs ds' q∧(∀x∈q,x.block < W.heap.size)∧
      (∀(j:Nat) t' v,ts[j]?=some t'→vs[j]?=some v→Value.okWide P W .any base t' v):=by
  cases args with
  | nil=>cases ds<;>simp [DataW.TrodAll] at h
  | cons v vs=>
    cases ds with
    | nil=>simp [DataW.TrodAll] at h
    | cons d ds=>
      obtain ⟨p,q,h1,h2,rfl⟩:=h
      obtain ⟨a,k1,k2,k3⟩:=ZO hr hf.1 (Rd hf.2 (hval 0 t v rfl rfl)) h1 (fun x hx=>hlt x (by simp [hx]))
      exact ⟨a,v,vs,d,ds,q,rfl,rfl,k1,k2,k3,h2,fun x hx=>hlt x (by simp [hx]),fun j t' v h1 h2=>hval (j+1) t' v (by simpa using h1) (by simpa using h2)⟩
theorem jQ {H:Type} {enc:TypeId×Value→H} {P:Program} {W:World} {args:List Value} {ds:List (DataW H)} {ps:List MemPlace} (h:DataW.TrodAll enc P W 0 (fun _=>true) true [] args ds ps):args=[]∧ds=[]:=by
  cases args with
  | nil=>cases ds with
    | nil=>exact ⟨rfl,rfl⟩
    | cons d ds=>simp [DataW.TrodAll] at h
  | cons v vs=>cases ds<;>simp [DataW.TrodAll] at h
end Go.Proofs.YtkaiffheakalmaaGreatDoor
