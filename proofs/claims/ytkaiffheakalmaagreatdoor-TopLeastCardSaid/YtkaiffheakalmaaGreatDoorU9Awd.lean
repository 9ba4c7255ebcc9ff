/- Copied, stripped. No conditions. -/
import Derived.Test.YtkaiffheakalmaaGreatDoorU9Awc
import Derived.Room.Entries
set_option linter.unusedSimpArgs false
set_option linter.unusedVariables false
set_option maxRecDepth 100000
namespace Go.Proofs.YtkaiffheakalmaaGreatDoor
open Go.RowKit
def AG:List (Option Ob)→Nat
  | []=>0
  | none::_=>0
  | some _::r=>AG r+1
def Aj:List (Option Ob)→Ob→List (Option Ob)
  | [],o=>[some o]
  | none::r,o=>some o::r
  | some x::r,o=>some x::Aj r o
theorem Bv:∀(h:List (Option Ob)) (o:Ob),(Aj h o)[AG h]?=some (some o)
  | [],_=>rfl
  | none::_,_=>rfl
  | some _::r,o=>by simpa [Aj,AG] using Bv r o
theorem BT:∀(h:List (Option Ob)) (o:Ob) (k:Nat),k≠AG h→(Aj h o)[k]?=h[k]?
  | [],o,k,hk=>by
    cases k with
    | zero=>exact absurd rfl hk
    | succ k=>simp [Aj]
  | none::r,o,k,hk=>by
    cases k with
    | zero=>exact absurd rfl hk
    | succ k=>simp [Aj]
  | some x::r,o,k,hk=>by
    cases k with
    | zero=>simp [Aj]
    | succ k=>
      simp only [Aj,List.getElem?_cons_succ]
      exact BT r o k (fun e=>hk (by simp [AG,e]))
theorem Ha:∀(h:List (Option Ob)) (o:Ob),¬h[AG h]?=some (some o)
  | [],o=>by simp
  | none::_,o=>by simp [AG]
  | some _::r,o=>by simpa [AG] using Ha r o
def Fo (bl:Nat→Option BI) (id:Nat) (i:BI):Nat→Option BI:=fun k=>if k=id then some i else bl k
theorem AX (bl:Nat→Option BI) (id:Nat) (i:BI):Fo bl id i id=some i:=if_pos rfl
theorem Ac {bl:Nat→Option BI} {id k:Nat} {i:BI} (h:k≠id):Fo bl id i k=bl k:=if_neg h
theorem RP.fresh_none {C:Ctx} {σ:St} {a:Act} {w:World} {I:Nat→Prop} {bl:Nat→Option BI} (hp:RP C σ a w I bl):bl (AG σ.heap)=none:=by
  cases h:bl (AG σ.heap) with
  | none=>rfl
  | some i=>
    obtain ⟨o,ho⟩:=hp.heap.live _ _ h
    exact absurd ho (Ha _ _)
theorem RP.live_ne {C:Ctx} {σ:St} {a:Act} {w:World} {I:Nat→Prop} {bl:Nat→Option BI} (hp:RP C σ a w I bl) {id:Nat} {i:BI} (h:bl id=some i):id≠AG σ.heap:=by
  intro e
  rw [e,hp.fresh_none] at h
  cases h
theorem ObRep.later {w w':World} {I I':Nat→Prop} {bl bl':Nat→Option BI} {id:Nat} {o:Ob} (h:ObRep w I bl id o) (hl:Later I w w') (hI:∀b,I b→I' b) (hb:∀k i,bl k=some i→bl' k=some i)
    (hown:∀i b,bl id=some i→i.blk=some b→w'.heap[b]?=w.heap[b]?) (hn:bl id=none→bl' id=none):ObRep w' I' bl' id o:=by
  cases o with
  | row z els=>
    obtain ⟨bi,h1,h2,h3,h4⟩:=h
    refine ⟨bi,hb _ _ h1,h2,h3,?_⟩
    cases hbl:bi.blk with
    | none=>simp only [hbl] at h4 ⊢;exact h4
    | some b=>
      simp only [hbl] at h4 ⊢
      obtain ⟨cur,e,hg,hsz,hc⟩:=h4
      refine ⟨cur,e,hg.heap (hown bi b h1 hbl),hsz,?_⟩
      intro i x j c hx hxc
      obtain ⟨u,hu,h1',hr⟩:=hc i x j c hx hxc
      exact ⟨u,hu,h1',hr.later hl hI hb⟩
  | iter s pos=>
    obtain ⟨b,base,z,t,h1,h2,h3,h4⟩:=h
    exact ⟨b,base,z,t,hb _ _ h1,by rw [hown _ b h1 rfl];exact h2,h3,h4⟩
  | mp es=>
    obtain ⟨b,base,z,t,h1,h2,h3,h4⟩:=h
    exact ⟨b,base,z,t,hb _ _ h1,by rw [hown _ b h1 rfl];exact h2,h3,h4⟩
  | bld T y=>
    obtain ⟨b,p,v,h1,h2,h3,h4,h5⟩:=h
    exact ⟨b,p,v,hb _ _ h1,by rw [hown _ b h1 rfl];exact h2,h3,h4,h5.later hl hI hb⟩
  | buf U s=>
    obtain ⟨blk,h1,h2⟩:=h
    refine ⟨blk,hb _ _ h1,?_⟩
    cases blk with
    | none=>exact h2
    | some g=>
      obtain ⟨cur,h3,h4⟩:=h2
      exact ⟨cur,by rw [hown _ g h1 rfl];exact h3,h4⟩
  | hid vs l=>exact ⟨hn h.1,h.2.1,fun i v x hv hx=>(h.2.2 i v x hv hx).later hl hI hb⟩
theorem EnvRep.later {env:List V} {a:Array Value} {w w':World} {I I':Nat→Prop} {bl bl':Nat→Option BI} (h:EnvRep env a w I bl) (hl:Later I w w') (hI:∀b,I b→I' b) (hb:∀k i,bl k=some i→bl' k=some i):EnvRep env a w' I' bl':=
  ⟨h.1,fun i v x hv hx=>(h.2 i v x hv hx).later hl hI hb⟩
theorem A8 (w:World) (o:Obj) (k:Nat) (h:k < w.heap.size):(w.alloc o).heap[k]?=w.heap[k]?:=Below.heap_alloc w o k h
theorem B0 {w w':World} {b:Nat} (h:w'.heap[b]?=w.heap[b]?):w'.shape? b=w.shape? b:=by simp [World.shape?,h]
theorem Dx (I:Nat→Prop) (w:World) (o:Obj) (hI:∀b,I b→b < w.heap.size):Later I w (w.alloc o):=by
  refine ⟨fun b hb=>A8 w o b (hI b hb),fun b s hs=>?_⟩
  have hlt:b < w.heap.size:=by
    unfold World.shape? at hs
    split at hs
    . rename_i h
      exact (Array.getElem?_eq_some_iff.1 h).1
    . cases hs
  rw [B0 (A8 w o b hlt)]
  exact hs
theorem Kept.alloc {E:Nat→Prop} {w0 w:World} (h:Kept E w0 w) (o:Obj):Kept E w0 (w.alloc o):=
  h.trans ⟨rfl,rfl,rfl,by simp,fun k hk _=>A8 w o k hk,(Dx (fun _=>False) w o (fun _ h=>h.elim)).shape⟩
theorem Kept.drew {E:Nat→Prop} {w0 w:World} (h:Kept E w0 w):Kept E w0 w.drew:=h.trans ⟨rfl,rfl,rfl,Nat.le_refl _,fun _ _ _=>rfl,fun _ _ h=>h⟩
theorem RP.drew {C:Ctx} {σ:St} {a:Act} {w:World} {I:Nat→Prop} {bl:Nat→Option BI} (hp:RP C σ a w I bl):RP C σ a w.drew I bl:=by
  have hl:Later I w w.drew:=⟨fun _ _=>rfl,fun _ _ h=>h⟩
  exact ⟨hp.defers,hp.env.later hl (fun _ h=>h) (fun _ _ h=>h),⟨fun id o h=>(hp.heap.obj id o h).later hl (fun _ h=>h) (fun _ _ h=>h) (fun _ _ _ _=>rfl) (fun h=>h),hp.heap.live,hp.heap.apart,hp.heap.own,hp.heap.imm,hp.heap.kept.drew⟩⟩
theorem RP.alloc {C:Ctx} {σ:St} {a:Act} {w:World} {I:Nat→Prop} {bl:Nat→Option BI} (hp:RP C σ a w I bl) (cur:Array Value) (e:TypeId) (z:Nat) (els:List V)
    (hz:∀(i:Nat) (x:V),els[i]?=some x→x.cells.length=z) (hlen:els.length*z≤cur.size)
    (hcell:∀(i:Nat) (x:V) (j:Nat) (c:V),els[i]?=some x→x.cells[j]?=some c→∃u,cur[i*z+j]?=some u∧u.oneCell'=true∧Rep w I bl u c):
    RP C { σ with heap:=Aj σ.heap (.row z els)} a (w.alloc (.cells cur e)) I (Fo bl (AG σ.heap) ⟨some w.heap.size,0,z⟩):=by
  have hl:=Dx I w (.cells cur e) (fun b hb=>(hp.heap.imm b hb).1)
  have hb:∀k i,bl k=some i→Fo bl (AG σ.heap) ⟨some w.heap.size,0,z⟩ k=some i:=fun k i h=>by rw [Ac (hp.live_ne h)];exact h
  refine ⟨hp.defers,hp.env.later hl (fun _ h=>h) hb,⟨?_,?_,?_,?_,?_,hp.heap.kept.alloc _⟩⟩
  . intro id o ho
    by_cases hid:id=AG σ.heap
    . subst hid
      rw [Bv] at ho
      simp only [Option.some.injEq] at ho
      subst ho
      refine ⟨_,AX _ _ _,rfl,hz,?_⟩
      refine ⟨cur,e,.of (heap_alloc_new w _),by simpa using hlen,?_⟩
      intro i x j c hx hc
      obtain ⟨u,hu,h1,hr⟩:=hcell i x j c hx hc
      exact ⟨u,by simpa using hu,h1,hr.later hl (fun _ h=>h) hb⟩
    . simp only [BT _ _ _ hid] at ho
      refine (hp.heap.obj id o ho).later hl (fun _ h=>h) hb ?_ (fun h=>by rw [Ac hid];exact h)
      intro i b h1 h2
      exact A8 w _ b (hp.heap.own id i b h1 h2).1
  . intro id i h
    by_cases hid:id=AG σ.heap
    . subst hid;exact ⟨_,Bv _ _⟩
    . rw [Ac hid] at h
      obtain ⟨o,ho⟩:=hp.heap.live id i h
      exact ⟨o,by simp only [BT _ _ _ hid];exact ho⟩
  . intro id id' i i' b h1 h2 h3 h4
    by_cases hid:id=AG σ.heap
    . by_cases hid':id'=AG σ.heap
      . rw [hid,hid']
      . subst hid
        rw [AX] at h1
        simp only [Option.some.injEq] at h1
        subst h1
        simp only [Option.some.injEq] at h3
        rw [Ac hid'] at h2
        have:=(hp.heap.own id' i' b h2 h4).1
        omega
    . rw [Ac hid] at h1
      by_cases hid':id'=AG σ.heap
      . subst hid'
        rw [AX] at h2
        simp only [Option.some.injEq] at h2
        subst h2
        simp only [Option.some.injEq] at h4
        have:=(hp.heap.own id i b h1 h3).1
        omega
      . rw [Ac hid'] at h2
        exact hp.heap.apart id id' i i' b h1 h2 h3 h4
  . intro id i b h1 h2
    by_cases hid:id=AG σ.heap
    . subst hid
      rw [AX] at h1
      simp only [Option.some.injEq] at h1
      subst h1
      simp only [Option.some.injEq] at h2
      subst h2
      refine ⟨by simp,fun h=>?_,.inr hp.heap.kept.size⟩
      have:=(hp.heap.imm _ h).1
      omega
    . rw [Ac hid] at h1
      obtain ⟨h3,h4,h5⟩:=hp.heap.own id i b h1 h2
      exact ⟨by simp;omega,h4,h5⟩
  . intro k hk
    obtain ⟨h1,h2⟩:=hp.heap.imm k hk
    exact ⟨by simp;omega,h2⟩
theorem EK {I:Nat→Prop} {w:World} {b:Nat} {cur cur':Array Value} {e:TypeId} {fr:Nat×Nat} (hg:w.heap[b]?=some (.cells cur e fr)) (hsz:cur'.size=cur.size) (hI:¬I b):Later I w (w.setRow b cur'):=by
  refine ⟨fun k hk=>setRow_other w b k cur' (fun e=>hI (e▸hk)),fun k s hs=>?_⟩
  by_cases hk:k=b
  . subst hk
    simp only [World.shape?,hg] at hs
    simp only [World.shape?,setRow_heap w k cur cur' e fr hg,hsz]
    exact hs
  . rw [B0 (setRow_other w b k cur' hk)]
    exact hs
theorem DA (w:World) (b:Nat) (cs:Array Value):(w.setRow b cs).heap.size=w.heap.size:=by simp [World.setRow]
theorem Kept.setRow {E:Nat→Prop} {w0 w:World} (h:Kept E w0 w) {b:Nat} (hb:E b∨w0.heap.size≤b) {cur:Array Value} {e:TypeId} {fr:Nat×Nat} (hg:w.heap[b]?=some (.cells cur e fr)) {cs:Array Value} (hsz:cs.size=cur.size):Kept E w0 (w.setRow b cs):=by
  refine ⟨h.os,h.tape,h.output,by rw [DA];exact h.size,fun k hk hE=>?_,fun k s hs=>(EK (I:=fun _=>False) hg hsz (fun h=>h)).shape k s (h.shape k s hs)⟩
  rw [setRow_other w b k cs (fun e=>by subst e;exact hb.elim hE (fun hb=>by omega))]
  exact h.block k hk hE
theorem RP.write {C:Ctx} {σ:St} {a:Act} {w:World} {I:Nat→Prop} {bl:Nat→Option BI} (hp:RP C σ a w I bl) {id b base z:Nat} (hbl:bl id=some ⟨some b,base,z⟩) {cur:Array Value} {e:TypeId} (hgc:CellsAt z w b cur e)
    (cur':Array Value) (hsz:cur'.size=cur.size) (els':List V) (hz:∀(i:Nat) (x:V),els'[i]?=some x→x.cells.length=z) (hlen:base+els'.length*z≤cur'.size)
    (hcell:∀(i:Nat) (x:V) (j:Nat) (c:V),els'[i]?=some x→x.cells[j]?=some c→∃u,cur'[base+i*z+j]?=some u∧u.oneCell'=true∧Rep w I bl u c):
    RP C { σ with heap:=σ.heap.set id (some (.row z els'))} a (w.setRow b cur') I bl:=by
  obtain ⟨hb1,hb2,hb3⟩:=hp.heap.own id _ b hbl rfl
  obtain ⟨fz,hfz,hg⟩:=hgc
  have hl:=EK (I:=I) hg hsz hb2
  obtain ⟨o0,ho0⟩:=hp.heap.live id _ hbl
  have hid:id < σ.heap.length:=(List.getElem?_eq_some_iff.1 ho0).1
  refine ⟨hp.defers,hp.env.later hl (fun _ h=>h) (fun _ _ h=>h),⟨?_,?_,hp.heap.apart,?_,?_,hp.heap.kept.setRow hb3 hg hsz⟩⟩
  . intro k o ho
    by_cases hk:k=id
    . subst hk
      simp only [List.getElem?_set_self hid,Option.some.injEq] at ho
      subst ho
      refine ⟨_,hbl,rfl,hz,cur',e,CellsAt.setRow ⟨fz,hfz,hg⟩ hsz,hlen,?_⟩
      intro i x j c hx hc
      obtain ⟨u,hu,h1,hr⟩:=hcell i x j c hx hc
      exact ⟨u,hu,h1,hr.later hl (fun _ h=>h) (fun _ _ h=>h)⟩
    . simp only [List.getElem?_set_ne (Ne.symm hk)] at ho
      refine (hp.heap.obj k o ho).later hl (fun _ h=>h) (fun _ _ h=>h) ?_ (fun h=>h)
      intro i b' h1 h2
      refine setRow_other w b b' cur' (fun e=>hk ?_)
      subst e
      exact hp.heap.apart k id i _ b' h1 hbl h2 rfl
  . intro k i h
    by_cases hk:k=id
    . subst hk;exact ⟨.row z els',by simp only [List.getElem?_set_self hid]⟩
    . obtain ⟨o,ho⟩:=hp.heap.live k i h
      exact ⟨o,by simp only [List.getElem?_set_ne (Ne.symm hk)];exact ho⟩
  . intro k i b' h1 h2
    obtain ⟨h3,h4,h5⟩:=hp.heap.own k i b' h1 h2
    exact ⟨by rw [DA];exact h3,h4,h5⟩
  . intro k hk
    obtain ⟨h1,h2⟩:=hp.heap.imm k hk
    exact ⟨by rw [DA];exact h1,h2⟩
def V.one:V→Bool
  | .any=>false
  | .tup _=>false
  | _=>true
theorem Vw {w:World} {I:Nat→Prop} {bl:Nat→Option BI} {u:Value} {c:V} (h:Rep w I bl u c) (h1:u.oneCell'=true):c.cells=[c]:=by
  cases c with
  | agg l=>
    obtain ⟨vs,rfl,_⟩:=h.inv_agg
    simp [Value.oneCell'] at h1
  | _=>rfl
theorem I3 {w:World} {I:Nat→Prop} {bl:Nat→Option BI} {v:Value} {x:V} (h:Rep w I bl v x) (h1:x.one=true):
    v.cells.toList.length=x.cells.length∧(∀u∈v.cells.toList,u.oneCell'=true)∧∀(j:Nat) (u:Value) (c:V),v.cells.toList[j]?=some u→x.cells[j]?=some c→Rep w I bl u c:=by
  have single:(∀cs,v≠.agg cs)→v.oneCell'=true→(∀l,x≠.agg l)→v.cells.toList.length=x.cells.length∧(∀u∈v.cells.toList,u.oneCell'=true)∧∀(j:Nat) (u:Value) (c:V),v.cells.toList[j]?=some u→x.cells[j]?=some c→Rep w I bl u c:=by
    intro hv hone hx
    have e1:v.cells=#[v]:=by cases v<;>first|rfl|exact absurd rfl (hv _)
    have e2:x.cells=[x]:=by cases x<;>first|rfl|exact absurd rfl (hx _)
    rw [e1,e2]
    refine ⟨rfl,fun u hu=>by simp at hu;subst hu;exact hone,fun j u c hu hc=>?_⟩
    cases j with
    | zero=>simp at hu hc;subst hu;subst hc;exact h
    | succ j=>simp at hu
  cases x with
  | any=>simp [V.one] at h1
  | tup l=>simp [V.one] at h1
  | agg l=>
    obtain ⟨vs,rfl,hl,ho,hr⟩:=h.inv_agg
    exact ⟨by simpa [Value.cells,V.cells] using hl,fun u hu=>ho u (by simpa [Value.cells] using hu),fun j u c hu hc=>hr j u c (by simpa [Value.cells] using hu) hc⟩
  | bool b=>rw [h.inv_bool];exact h.inv_bool▸single (by rw [h.inv_bool];intro cs e;cases e) (by rw [h.inv_bool];rfl) (fun l e=>by cases e)
  | int k n=>exact h.inv_int▸single (by rw [h.inv_int];intro cs e;cases e) (by rw [h.inv_int];rfl) (fun l e=>by cases e)
  | str s=>obtain ⟨t,rfl,_⟩:=h.inv_str;exact single (fun cs e=>by cases e) rfl (fun l e=>by cases e)
  | nils=>exact h.inv_nils▸single (by rw [h.inv_nils];intro cs e;cases e) (by rw [h.inv_nils];rfl) (fun l e=>by cases e)
  | nilp=>exact h.inv_nilp▸single (by rw [h.inv_nilp];intro cs e;cases e) (by rw [h.inv_nilp];rfl) (fun l e=>by cases e)
  | nili=>exact h.inv_nili▸single (by rw [h.inv_nili];intro cs e;cases e) (by rw [h.inv_nili];rfl) (fun l e=>by cases e)
  | ifi t k n=>exact h.inv_ifi▸single (by rw [h.inv_ifi];intro cs e;cases e) (by rw [h.inv_ifi];rfl) (fun l e=>by cases e)
  | ifx=>obtain ⟨t,u,rfl⟩:=h.inv_ifx;exact single (fun cs e=>by cases e) rfl (fun l e=>by cases e)
  | gp g=>have e:=h.inv_gp;subst e;exact single (fun cs e=>by cases e) rfl (fun l e=>by cases e)
  | gsl g n=>have e:=h.inv_gsl.1;subst e;exact single (fun cs e=>by cases e) rfl (fun l e=>by cases e)
  | lst l=>
    obtain ⟨_,hc⟩:=h.inv_lst
    rcases hc with ⟨_,p,cap,rfl⟩|⟨b,off,cap,z,u,_,_,_,rfl,_⟩
    . exact single (fun cs e=>by cases e) rfl (fun l e=>by cases e)
    . exact single (fun cs e=>by cases e) rfl (fun l e=>by cases e)
  | rp l=>obtain ⟨b,o',u,hI,rfl,_⟩:=h.inv_rp;exact single (fun cs e=>by cases e) rfl (fun l e=>by cases e)
  | fn f l=>obtain ⟨vs,rfl,_⟩:=h.inv_fn;exact single (fun cs e=>by cases e) rfl (fun l e=>by cases e)
  | sl id off n=>obtain ⟨_,p,cap,rfl⟩:=Ke h;exact single (fun cs e=>by cases e) rfl (fun l e=>by cases e)
  | ptr id i j=>obtain ⟨b,base,z',m',e',hbl,hs,rfl⟩:=h.inv_ptr;exact single (fun cs e=>by cases e) rfl (fun l e=>by cases e)
  | it id=>obtain ⟨b,base,z',hbl,rfl⟩:=h.inv_it;cases base<;>exact single (fun cs e=>by cases e) rfl (fun l e=>by cases e)
end Go.Proofs.YtkaiffheakalmaaGreatDoor
