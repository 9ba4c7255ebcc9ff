/- Joined. No conditions. -/
import Derived.Test.YtkaiffheakalmaaGreatDoorJ9ar
import Derived.ProofKit
set_option linter.unusedSimpArgs false
set_option linter.unusedVariables false
set_option maxRecDepth 100000
namespace Go.Proofs.YtkaiffheakalmaaGreatDoor
section
open Go.RowKit
def M4 (w:World) (vs:List Value) (x:V):Prop:=
 vs.length=x.cells.length∧(∀u∈vs,u.oneCell'=true)∧∀(j:Nat) (u:Value) (c:V),vs[j]?=some u→x.cells[j]?=some c→Pr w (fun b=>b < w.heap.size) u c
def Reads (P:Program) (t:TypeId) {α:Type} (f:α→V) (ok:α→Prop) (sz:α→Nat) (n:Nat):Prop:=
 ∀(H:Type) (enc:TypeId×Value→H) (w:World) (cs:List Value) (d:DataW H) (ps:List MemPlace),DataW.trod enc P w 0 (fun _=>true) true n t cs=some (d,ps)→(∀x∈ps,x.block < w.heap.size)→
   ∃a:α,M4 w cs (f a)∧ok a∧sz a≤Rows.uptoBulk d
theorem Reads.zero {P:Program} {t:TypeId} {α:Type} {f:α→V} {ok:α→Prop} {sz:α→Nat}:Reads P t f ok sz 0:=by
 intro H enc w cs d ps h
 simp [DataW.trod] at h
theorem Oy {P:Program} {t:TypeId} {k:IntKind} (ht:P.underlying t=some (.int k)) (n:Nat):Reads P t (V.int k) (fun m=>k.min≤m∧m≤k.max) (fun _=>1) n:=by
 cases n with
 | zero=>exact Reads.zero
 | succ n=>
   intro H enc w cs d ps h hps
   have hc:∃m,cs=[.int k m]∧d= .lit (.int k m)∧(Lit.int k m).wf=true:=by
    cases cs with
    | nil=>simp [DataW.trod,ht] at h
    | cons v r=>cases r with
      | nil=>cases v<;>simp [DataW.trod,ht] at h<;>(obtain ⟨⟨rfl,hw⟩,rfl,_⟩:=h;exact ⟨_,rfl,rfl,hw⟩)
      | cons v' r=>cases v<;>simp [DataW.trod,ht] at h
   obtain ⟨m,rfl,rfl,hw⟩:=hc
   refine ⟨m,⟨rfl,fun u hu=>by simp at hu;subst hu;rfl,fun j u c hu hc=>by
    cases j with
    | zero=>simp [V.cells] at hu hc;subst hu;subst hc;exact .int k m
    | succ j=>simp at hu⟩,by simpa [Lit.wf] using hw,by simp [Rows.uptoBulk]⟩
theorem Oz {α β:Type} {f:β→Option α}:∀{xs:List β} {l:List α},xs.mapM f=some l→l.length=xs.length∧∀(i:Nat) (k:β),xs[i]?=some k→∃x,f k=some x∧l[i]?=some x:=by
 intro xs
 induction xs with
 | nil=>intro l h;simp at h;subst h;exact ⟨rfl,fun i k hk=>by simp at hk⟩
 | cons y ys ih=>
   intro l h
   simp only [List.mapM_cons] at h
   cases hy:f y with
   | none=>simp [hy] at h
   | some b=>
     cases hys:ys.mapM f with
     | none=>simp [hy,hys] at h
     | some bs=>
       simp [hy,hys] at h
       subst h
       obtain ⟨h1,h2⟩:=ih hys
       refine ⟨by simp [h1],fun i k hk=>?_⟩
       cases i with
       | zero=>simp at hk;subst hk;exact ⟨b,hy,rfl⟩
       | succ i=>simpa using h2 i k (by simpa using hk)
theorem Ry {H α:Type} (sz:α→Nat):∀(l:List α) (ds:List (DataW H)),l.length=ds.length→(∀(i:Nat) (a:α) (d:DataW H),l[i]?=some a→ds[i]?=some d→sz a≤Rows.uptoBulk d)→(l.map sz).sum≤Rows.uptoBulkAll ds
 | [],[],_,_=>by simp [Rows.uptoBulkAll]
 | a::l,d::ds,hl,h=>by
   have h0:=h 0 a d rfl rfl
   have:=Ry sz l ds (by simpa using hl) (fun i a d ha hd=>h (i+1) a d (by simpa using ha) (by simpa using hd))
   simp [Rows.uptoBulkAll]
   omega
 | [],_::_,hl,_=>by simp at hl
 | _::_,[],hl,_=>by simp at hl
theorem Rz {P:Program} {t e:TypeId} {α:Type} {f:α→V} {ok:α→Prop} {sz:α→Nat} {n z:Nat} (ht:P.underlying t=some (.slice e)) (hz:P.cellsOf e=z) (hf:∀a,(f a).cells.length=z) (hz0:z≠0) (h:Reads P e f ok sz n):
 Reads P t (fun l:List α=>.lst (l.map f)) (fun l=>l.length≤maxLen∧∀a∈l,ok a) (fun l=>(l.map sz).sum+1) (n+1):=by
 intro H enc w cs d ps hd hps
 have hc:(cs=[.slice none 0 0]∧d= .nil)∨∃(a:Addr) (len cap:Nat) (elems rest:List (DataW H×List MemPlace)),cs=[.slice (some a) len cap]∧len≤cap∧cap≤maxLen∧
  (List.range len).mapM (fun i=>(w.cells? 0 (a.add (i*z)) z).bind (DataW.trod enc P w 0 (fun _=>true) true n e))=some elems∧d= .slice (elems.map (·.1)) (rest.map (·.1))∧ps=MemPlace.row a ((elems.length+rest.length)*z)++(elems++rest).flatMap (·.2):=by
  cases cs with
  | nil=>simp [DataW.trod,ht] at hd
  | cons v r=>cases r with
    | cons v' r=>cases v<;>simp [DataW.trod,ht] at hd
    | nil=>
      cases v with
      | slice a len cap=>
        cases a with
        | none=>
          cases len with
          | zero=>cases cap with
            | zero=>simp [DataW.trod,ht] at hd;exact .inl ⟨rfl,hd.1.symm⟩
            | succ c=>simp [DataW.trod,ht] at hd
          | succ l=>simp [DataW.trod,ht] at hd
        | some a=>
          right
          simp only [DataW.trod,ht,hz] at hd
          split at hd
          ·rename_i hc
           cases hel:(List.range len).mapM (fun i=>(w.cells? 0 (a.add (i*z)) z).bind (DataW.trod enc P w 0 (fun _=>true) true n e)) with
           | none=>simp [hel] at hd
           | some elems=>
             simp only [hel,Option.bind_some,if_true] at hd
             cases hre:(List.range (cap - len)).mapM (fun j=>(w.cells? 0 (a.add ((len+j)*z)) z).bind (DataW.trod enc P w 0 (fun _=>true) true n e)) with
             | none=>simp [hre] at hd
             | some rest=>
               simp only [hre,Option.map_some,Option.some.injEq,Prod.mk.injEq] at hd
               exact ⟨a,len,cap,elems,rest,rfl,hc.2.1,hc.2.2,hel,hd.1.symm,hd.2.symm⟩
          ·cases hd
      | _=>simp [DataW.trod,ht] at hd
 rcases hc with ⟨rfl,rfl⟩|⟨a,len,cap,elems,rest,rfl,hlc,hcm,hel,rfl,rfl⟩
 ·exact ⟨[],⟨rfl,fun u hu=>by simp at hu;subst hu;rfl,fun j u c hu hc=>by
   cases j with
   | zero=>simp [V.cells] at hu hc;subst hu;subst hc;exact .lnil none 0
   | succ j=>simp at hu⟩,⟨by simp [maxLen],by simp⟩,by simp [Rows.uptoBulk]⟩
 ·obtain ⟨hl,hi⟩:=Oz hel
  simp only [List.length_range] at hl
  have each:∀i:Fin len,∃x:α×List Value,w.cells? 0 (a.add (i*z)) z=some x.2∧M4 w x.2 (f x.1)∧ok x.1∧∀y,elems[i.val]?=some y→sz x.1≤Rows.uptoBulk y.1:=by
   intro i
   obtain ⟨y,hy,hyi⟩:=hi i.val i.val (by simp)
   cases hcs:w.cells? 0 (a.add (i*z)) z with
   | none=>simp [hcs] at hy
   | some vs=>
     simp only [hcs,Option.bind_some] at hy
     obtain ⟨x,h1,h2,h3⟩:=h H enc w vs y.1 y.2 hy (fun p hp=>hps p (by
      simp only [List.mem_append,List.mem_flatMap]
      right
      exact ⟨y,.inl (List.mem_of_getElem? hyi),hp⟩))
     refine ⟨(x,vs),rfl,h1,h2,fun y' hy'=>?_⟩
     rw [hyi] at hy'
     simp only [Option.some.injEq] at hy'
     subst hy'
     exact h3
  obtain ⟨g,hg⟩:=Classical.axiomOfChoice each
  have hget:∀i (hi:i < len),(List.ofFn fun i=>(g i).1)[i]?=some (g ⟨i,hi⟩).1:=by
   intro i hi
   rw [List.getElem?_ofFn,dif_pos hi]
  refine ⟨List.ofFn fun i=>(g i).1,⟨rfl,fun u hu=>by simp at hu;subst hu;rfl,fun j u c hu hc=>?_⟩,⟨by simp;omega,fun x hx=>?_⟩,?_⟩
  ·cases j with
   | succ j=>simp at hu
   | zero=>
     simp [V.cells] at hu hc
     subst hu;subst hc
     by_cases h0:len=0
     ·subst h0
      simp only [List.ofFn_zero,List.map_nil]
      exact .lnil _ _
     ·have hcell:∀(i:Fin len) (j:Nat) (u:Value),(g i).2[j]?=some u→j < z∧w.cell? (((a.add (i*z))).add j)=some u:=by
       intro i j u hu
       have hc:=(hg i).1
       unfold World.cells? at hc
       rw [if_pos (Nat.zero_le _)] at hc
       obtain ⟨h1,h2⟩:=Oz hc
       simp only [List.length_range] at h1
       have hj:j < z:=by rw [←h1];exact (List.getElem?_eq_some_iff.1 hu).1
       obtain ⟨u',hu',hu2⟩:=h2 j j (by simp [hj])
       rw [hu] at hu2
       simp only [Option.some.injEq] at hu2
       subst hu2
       exact ⟨hj,hu'⟩
      obtain ⟨b,off,spot⟩:=a
      ·have hlen2:∀i:Fin len,(g i).2.length=z:=fun i=>by rw [(hg i).2.1.1,hf]
       have hspot:spot=none:=by
        have h1:0 < (g ⟨0,by omega⟩).2.length:=by rw [hlen2];omega
        have h2:=(hcell ⟨0,by omega⟩ 0 _ (List.getElem?_eq_getElem h1)).2
        simpa [Addr.add] using World.cell?_spot h2
       subst hspot
       let u:Nat→Nat→Value:=fun i j=>if hi:i < len then (g ⟨i,hi⟩).2.getD j (.bool true) else .bool true
       have:=Pr.lst (w:=w) (I:=fun b=>b < w.heap.size) b off cap z ((List.ofFn fun i=>(g i).1).map f) u (by
        have:=hps (.cell b off) (by
         simp only [List.mem_append]
         left
         exact MemPlace.mem_row.2 ⟨0,Nat.mul_pos (by omega) (by omega),by simp⟩)
        exact this) (by simp;omega) hcm (by
        intro i x hx
        simp only [List.getElem?_map,Option.map_eq_some_iff] at hx
        obtain ⟨y,_,rfl⟩:=hx
        exact hf y) (by
        intro i j hi hj
        simp only [List.length_map,List.length_ofFn] at hi
        have hj':j < (g ⟨i,hi⟩).2.length:=by rw [hlen2];exact hj
        have:=(hcell ⟨i,hi⟩ j _ (List.getElem?_eq_getElem hj')).2
        rw [Addr.add_lit,Addr.add_lit] at this
        rw [this]
        simp only [u,dif_pos hi]
        simp [List.getD,List.getElem?_eq_getElem hj']) (by
        intro i j
        simp only [u]
        split
        ·rename_i hi
         by_cases hj:j < (g ⟨i,hi⟩).2.length
         ·simp only [List.getD,List.getElem?_eq_getElem hj,Option.getD_some]
          exact (hg ⟨i,hi⟩).2.1.2.1 _ (List.getElem_mem hj)
         ·simp only [List.getD,List.getElem?_eq_none (Nat.le_of_not_lt hj),Option.getD_none]
          rfl
        ·rfl) (by
        intro i x j c hx hc
        simp only [List.getElem?_map,Option.map_eq_some_iff] at hx
        obtain ⟨y,hy,rfl⟩:=hx
        have hi:i < len:=by
         have:=(List.getElem?_eq_some_iff.1 hy).1
         simpa using this
        rw [hget i hi] at hy
        simp only [Option.some.injEq] at hy
        subst hy
        have hj:j < (g ⟨i,hi⟩).2.length:=by rw [(hg ⟨i,hi⟩).2.1.1];exact (List.getElem?_eq_some_iff.1 hc).1
        simp only [u,dif_pos hi]
        simp only [List.getD,List.getElem?_eq_getElem hj,Option.getD_some]
        exact (hg ⟨i,hi⟩).2.1.2.2 j _ c (List.getElem?_eq_getElem hj) hc)
       simpa using this
  ·simp only [List.mem_ofFn] at hx
   obtain ⟨i,rfl⟩:=hx
   exact (hg i).2.2.1
  ·simp only [Rows.uptoBulk]
   have:=Ry (H:=H) sz (List.ofFn fun i=>(g i).1) (elems.map (·.1)) (by simp [hl]) (by
    intro i x d hx hd
    have hi:i < len:=by
     have:=(List.getElem?_eq_some_iff.1 hx).1
     simpa using this
    rw [hget i hi] at hx
    simp only [Option.some.injEq] at hx
    subst hx
    simp only [List.getElem?_map,Option.map_eq_some_iff] at hd
    obtain ⟨y,hy,rfl⟩:=hd
    exact (hg ⟨i,hi⟩).2.2.2 y hy)
   omega
theorem Reads.as {P:Program} {t:TypeId} {α β:Type} {f:α→V} {f':β→V} {ok:α→Prop} {ok':β→Prop} {sz:α→Nat} {sz':β→Nat} {n:Nat} (h:Reads P t f ok sz n) (to:α→β) (h1:∀a,f' (to a)=f a) (h2:∀a,ok a→ok' (to a)) (h3:∀a,sz' (to a)≤sz a):
 Reads P t f' ok' sz' n:=by
 intro H enc w cs d ps hd hps
 obtain ⟨a,g1,g2,g3⟩:=h H enc w cs d ps hd hps
 exact ⟨to a,by rw [h1];exact g1,h2 a g2,Nat.le_trans (h3 a) g3⟩
theorem dC {w:World} {v:Value} {x:V} (hv:v.cells=#[v]) (hx:x.cells=[x]) (h:M4 w v.cells.toList x):Pr w (fun b=>b < w.heap.size) v x:=
 h.2.2 0 v x (by rw [hv];rfl) (by rw [hx];rfl)
theorem dD {P:Program} {t:TypeId} {α:Type} {f:α→V} {ok:α→Prop} {sz:α→Nat} (h:∀n,Reads P t f ok sz n) (hf:∀a,(f a).cells=[f a]) {H:Type} {enc:TypeId×Value→H} {w:World} {v:Value} {d:DataW H} {ps:List MemPlace} (hv:v.cells=#[v])
 (hd:DataW.Trod enc P w 0 (fun _=>true) true t v d ps) (hps:∀x∈ps,x.block < w.heap.size):∃a,Pr w (fun b=>b < w.heap.size) v (f a)∧ok a∧sz a≤Rows.uptoBulk d:=by
 obtain ⟨fuel,hd⟩:=hd
 obtain ⟨a,h1,h2,h3⟩:=h fuel H enc w _ d ps hd hps
 exact ⟨a,dC hv (hf a) h1,h2,h3⟩
end
section
open Go.RowKit Go.WideShapes
theorem Tk {P:Program} {w:World} {base:Nat} {t:TypeId} {v:Value} (ht:(match P.underlying t with|some (.slice _)=>true|some .string=>true|some (.int _)=>true|some .bool=>true|some (.pointer _)=>true|_=>false)=true)
 (h:Value.okWide P w .any base t v):v.cells=#[v]:=by
 cases hu:P.underlying t with
 | none=>simp [hu] at ht
 | some u=>
   cases u with
   | slice e=>obtain ⟨a,l,c,rfl⟩:=okWide_slice hu h;rfl
   | string=>obtain ⟨s,rfl⟩:=okWide_string hu h;rfl
   | int k=>obtain ⟨n,rfl⟩:=okWide_int hu h;rfl
   | bool=>obtain ⟨b,rfl⟩:=okWide_bool hu h;rfl
   | pointer e=>obtain ⟨a,rfl⟩:=okWide_pointer hu h;rfl
   | _=>simp [hu] at ht
def LW (w:World) (vs:List Value) (xs:List V):Prop:=xs.length=vs.length∧∀(i:Nat) (v:Value) (x:V),vs[i]?=some v→xs[i]?=some x→Pr w (fun b=>b < w.heap.size) v x
theorem Za {w:World}:LW w [] []:=⟨rfl,fun i v x h=>by simp at h⟩
theorem KR {w:World} {v:Value} {x:V} {vs:List Value} {xs:List V} (h:Pr w (fun b=>b < w.heap.size) v x) (k:LW w vs xs):LW w (v::vs) (x::xs):=
 ⟨by simp [k.1],fun i u y hu hy=>by
   cases i with
   | zero=>simp at hu hy;subst hu;subst hy;exact h
   | succ i=>exact k.2 i u y (by simpa using hu) (by simpa using hy)⟩
theorem fG {H:Type} {enc:TypeId×Value→H} {P:Program} {W:World} {base:Nat} {t:TypeId} {ts:List TypeId} {args:List Value} {ds:List (DataW H)} {ps:List MemPlace}
 (hval:∀(j:Nat) t' v,(t::ts)[j]?=some t'→args[j]?=some v→Value.okWide P W .any base t' v)
 (h:DataW.TrodAll enc P W 0 (fun _=>true) true (t::ts) args ds ps) (hlt:∀x∈ps,x.block < W.heap.size) {α:Type} {f:α→V} {ok:α→Prop} {sz:α→Nat} (hr:∀n,Reads P t f ok sz n)
 (hf:(∀a,(f a).cells=[f a])∧(match P.underlying t with|some (.slice _)=>true|some .string=>true|some (.int _)=>true|some .bool=>true|some (.pointer _)=>true|_=>false)=true):
 ∃a v vs d ds' q,args=v::vs∧ds=d::ds'∧Pr W (fun b=>b < W.heap.size) v (f a)∧ok a∧sz a≤Rows.uptoBulk d∧DataW.TrodAll enc P W 0 (fun _=>true) true ts vs ds' q∧(∀x∈q,x.block < W.heap.size)∧
  (∀(j:Nat) t' v,ts[j]?=some t'→vs[j]?=some v→Value.okWide P W .any base t' v):=by
 cases args with
 | nil=>cases ds<;>simp [DataW.TrodAll] at h
 | cons v vs=>
   cases ds with
   | nil=>simp [DataW.TrodAll] at h
   | cons d ds=>
     obtain ⟨p,q,h1,h2,rfl⟩:=h
     obtain ⟨a,k1,k2,k3⟩:=dD hr hf.1 (Tk hf.2 (hval 0 t v rfl rfl)) h1 (fun x hx=>hlt x (by simp [hx]))
     exact ⟨a,v,vs,d,ds,q,rfl,rfl,k1,k2,k3,h2,fun x hx=>hlt x (by simp [hx]),fun j t' v h1 h2=>hval (j+1) t' v (by simpa using h1) (by simpa using h2)⟩
theorem jy {H:Type} {enc:TypeId×Value→H} {P:Program} {W:World} {args:List Value} {ds:List (DataW H)} {ps:List MemPlace} (h:DataW.TrodAll enc P W 0 (fun _=>true) true [] args ds ps):args=[]∧ds=[]:=by
 cases args with
 | nil=>cases ds with
   | nil=>exact ⟨rfl,rfl⟩
   | cons d ds=>simp [DataW.TrodAll] at h
 | cons v vs=>cases ds<;>simp [DataW.TrodAll] at h
end
section
open Go.RowKit
mutual
def V.nl:V→V
 | .nils=>.lst []
 | .agg l=>.agg (LD l)
 | .tup l=>.tup (LD l)
 | .lst l=>.lst (LD l)
 | .rp l=>.rp (LD l)
 | .fn f l=>.fn f (LD l)
 | x=>x
def LD:List V→List V
 | []=>[]
 | x::l=>x.nl::LD l
end
theorem BQ:∀l,(LD l).length=l.length
 | []=>by simp [LD]
 | x::l=>by simp [LD,BQ l]
theorem Cv:∀(l:List V) (i:Nat) (c:V),(LD l)[i]?=some c→∃x,l[i]?=some x∧c=x.nl
 | [],i,c,h=>by simp [LD] at h
 | x::l,0,c,h=>by simp [LD] at h;exact ⟨x,rfl,h.symm⟩
 | x::l,i+1,c,h=>by
   simp only [LD,List.getElem?_cons_succ] at h
   obtain ⟨y,hy,e⟩:=Cv l i c h
   exact ⟨y,by simpa using hy,e⟩
theorem JV (x:V):x.nl.cells=LD x.cells:=by cases x<;>simp [V.nl,V.cells,LD]
theorem Pr.nl {w:World} {I:Nat→Prop} {v:Value} {x:V} (h:Pr w I v x):Pr w I v x.nl:=by
 induction h with
 | any v=>exact .any v
 | bool b=>exact .bool b
 | int k n=>exact .int k n
 | str s h=>exact .str s h
 | nils=>simp only [V.nl];exact .lnil none 0
 | lnil a cap=>simp only [V.nl,LD];exact .lnil a cap
 | lst b off cap z l u h1 h2 h3 h4 h5 h6 h7 ih=>
   simp only [V.nl]
   rw [←BQ l]
   refine .lst b off cap z _ u h1 (by rw [BQ];exact h2) h3 (fun i c hc=>?_) (fun i j hi hj=>h5 i j (by rwa [BQ] at hi) hj) h6 (fun i c j d hc hd=>?_)
   ·obtain ⟨y,hy,rfl⟩:=Cv l i c hc
    rw [JV,BQ]
    exact h4 i y hy
   ·obtain ⟨y,hy,rfl⟩:=Cv l i c hc
    rw [JV] at hd
    obtain ⟨e,he,rfl⟩:=Cv _ j d hd
    exact ih i y j e hy he
 | agg vs l h1 h2 h3 ih=>
   simp only [V.nl]
   refine .agg vs _ (by rw [BQ,h1]) h2 (fun i v c hv hc=>?_)
   obtain ⟨x,hx,rfl⟩:=Cv l i c hc
   exact ih i v x hv hx
 | rp b off l u h1 h2 h3 h4 ih=>
   simp only [V.nl]
   refine .rp b off _ u h1 (fun j hj=>h2 j (by rwa [BQ] at hj)) h3 (fun j c hc=>?_)
   obtain ⟨x,hx,rfl⟩:=Cv l j c hc
   exact ih j x hx
 | fn f vs l h1 h2 ih=>
   simp only [V.nl]
   refine .fn f vs _ (by rw [BQ,h1]) (fun i v c hv hc=>?_)
   obtain ⟨x,hx,rfl⟩:=Cv l i c hc
   exact ih i v x hv hx
 | tup vs l h1 h2 ih=>
   simp only [V.nl]
   refine .tup vs _ (by rw [BQ,h1]) (fun i v c hv hc=>?_)
   obtain ⟨x,hx,rfl⟩:=Cv l i c hc
   exact ih i v x hv hx
 | nilp=>exact .nilp
 | nili=>exact .nili
 | ifi t k n=>exact .ifi t k n
 | ifx t v=>exact .ifx t v
 | gp g=>exact .gp g
 | gsl g n h=>exact .gsl g n h
theorem Pq {P:Program} {f:FuncId} {args:List V} {R:V→Prop} (h:Fn1 P f args fun r=>R r.nl):Fn1 P f args R:=
 fun w I vs h1 h2 h3=>(h w I vs h1 h2 h3).mono fun _ _ ⟨v,r,I',a,b,c,d⟩=>⟨v,r.nl,I',a,b,c.nl,d⟩
theorem cX (id:Nat) (els:List V) (x:V):x.nr→x.frz id els=x:=by
 refine V.rec (motive_1:=fun x=>x.nr→x.frz id els=x) (motive_2:=fun l=>BT l→Ai id els l=l) ?_ ?_ ?_ ?_ ?_ ?_ ?_ ?_ ?_ ?_ ?_ ?_ ?_ ?_ ?_ ?_ ?_ ?_ ?_ ?_ ?_ x
 all_goals first
  | (intro h;simp [V.frz,Ai];done)
  | (intro a h;simp [V.frz];done)
  | (intro a b h;simp [V.frz];done)
  | (intro a b c h;simp [V.frz];done)
  | (intro a ih h;simp [V.frz];done)
  | (intro l ih h;simp only [V.frz];rw [ih h])
  | (intro f l ih h;simp only [V.frz];rw [ih h])
  | (intro a b c h;exact (h:False).elim)
  | (intro a h;exact (h:False).elim)
  | (intro x l h1 h2 h;simp only [Ai];rw [h1 h.1,h2 h.2])
theorem AX (id:Nat) (els:List V):∀{l:List V},BT l→Ai id els l=l
 | [],_=>by simp [Ai]
 | x::l,h=>by simp only [Ai];rw [cX id els x h.1,AX id els h.2]
theorem ZH (id:Nat) (x:V):x.nr→x.kill id=x:=by
 refine V.rec (motive_1:=fun x=>x.nr→x.kill id=x) (motive_2:=fun l=>BT l→AF id l=l) ?_ ?_ ?_ ?_ ?_ ?_ ?_ ?_ ?_ ?_ ?_ ?_ ?_ ?_ ?_ ?_ ?_ ?_ ?_ ?_ ?_ x
 all_goals first
  | (intro h;simp [V.kill,AF];done)
  | (intro a h;simp [V.kill];done)
  | (intro a b h;simp [V.kill];done)
  | (intro a b c h;simp [V.kill];done)
  | (intro a ih h;simp [V.kill];done)
  | (intro l ih h;simp only [V.kill];rw [ih h])
  | (intro f l ih h;simp only [V.kill];rw [ih h])
  | (intro a b c h;exact (h:False).elim)
  | (intro a h;exact (h:False).elim)
  | (intro x l h1 h2 h;simp only [AF];rw [h1 h.1,h2 h.2])
theorem AA (id:Nat):∀{l:List V},BT l→AF id l=l
 | [],_=>by simp [AF]
 | x::l,h=>by simp only [AF];rw [ZH id x h.1,AA id h.2]
theorem VU {α:Type} (f:α→Nat):∀(l:List α) (x:α),x∈l→f x≤(l.map f).sum
 | [],x,h=>by simp at h
 | y::l,x,h=>by
   simp at h
   rcases h with rfl|h
   ·simp
   ·have:=VU f l x h
    simp;omega
theorem Ol {α:Type} (f:α→Nat) (hf:∀x,1≤f x):∀l:List α,l.length≤(l.map f).sum
 | []=>by simp
 | x::l=>by have:=Ol f hf l;have:=hf x;simp;omega
theorem BA {k:Nat} {ρ:Nat→Nat}:∀{l:List V},BT l→Fj k ρ l l
 | [],_=>by simp [Fj]
 | x::l,h=>by
   simp only [Fj]
   exact ⟨x,l,rfl,FK x h.1,BA h.2⟩
theorem Mw (u:List (Nat×V)):DE [] u=u:=by unfold DE;simp [Od]
def iS (q:Nat) (c c':List V):Prop:=c'.length=c.length∧∀(j:Nat) (x':V),c'[j]?=some x'→∃x,c[j]?=some x∧(x'=x∨(x= .nils∧x'= .sl q 0 0))
theorem P4 (q:Nat) (a b:List V):iS q (a++.nils::b) (a++.sl q 0 0::b):=by
 refine ⟨by simp,fun j x' hx=>?_⟩
 rcases Nat.lt_trichotomy j a.length with h|h|h
 ·rw [List.getElem?_append_left h] at hx ⊢
  exact ⟨x',hx,.inl rfl⟩
 ·subst h
  rw [List.getElem?_append_right (Nat.le_refl _),Nat.sub_self] at hx ⊢
  simp only [List.getElem?_cons_zero,Option.some.injEq] at hx ⊢
  exact ⟨.nils,rfl,.inr ⟨rfl,hx.symm⟩⟩
 ·rw [List.getElem?_append_right (by omega)] at hx ⊢
  obtain ⟨m,hm⟩:∃m,j - a.length=m+1:=⟨j - a.length - 1,by omega⟩
  rw [hm] at hx ⊢
  simp only [List.getElem?_cons_succ] at hx ⊢
  exact ⟨x',hx,.inl rfl⟩
theorem P5 {C:Ctx} {K:ES→Prop} (p z:Nat) {zz:Nat} {x x':V} {n:Nat} {u:List (Nat×V)} {h:List (Option Ob)} (ho:h[p]?=some (some (.row zz [x]))) (hx:iS (AG h) x.cells x'.cells)
 (ho':(Ag h (.row z []))[p]?=some (some (.row zz [x]))) (hk:UpE C K ⟨n,u,(Ag h (.row z [])).set p (some (.row zz [x']))⟩):UpE C K ⟨n,u,h⟩:=by
 refine ⟨BS (fun a w hr=>?_) hk.out⟩
 obtain ⟨I,bl,hp0⟩:=hr.parts
 have hp:=hp0.adopt z
 have hpl:p < (Ag h (.row z [])).length:=(List.getElem?_eq_some_iff.1 ho').1
 have hq:GQ bl (AG h) (⟨none,0,z⟩:BI) (AG h)=some ⟨none,0,z⟩:=AT _ _ _
 refine RP.rel (I:=I) (bl:=GQ bl (AG h) ⟨none,0,z⟩) ⟨hp.defers,hp.env,⟨fun id o hoo=>?_,fun id i hi=>?_,hp.heap.apart,hp.heap.own,hp.heap.imm,hp.heap.kept⟩⟩
 ·have hoo:((Ag h (.row z [])).set p (some (.row zz [x'])))[id]?=some (some o):=hoo
  by_cases e:id=p
  ·subst e
   rw [List.getElem?_set_self hpl] at hoo
   simp only [Option.some.injEq] at hoo
   subst hoo
   obtain ⟨bi,h1,h2,h3,h4⟩:=hp.heap.obj id _ ho'
   refine ⟨bi,h1,h2,fun i y hy=>?_,?_⟩
   ·match i,hy with
    | 0,hy=>
      simp at hy
      subst hy
      rw [hx.1];exact h3 0 x rfl
    | i+1,hy=>simp at hy
   ·cases hbl:bi.blk with
    | none=>simp only [hbl] at h4;cases h4
    | some b=>
      simp only [hbl] at h4 ⊢
      obtain ⟨cur,e,hg,hsz,hc⟩:=h4
      refine ⟨cur,e,hg,hsz,fun i y j c hy hyc=>?_⟩
      match i,hy with
      | 0,hy=>
        simp at hy
        subst hy
        obtain ⟨c0,hc0,hcc⟩:=hx.2 j c hyc
        obtain ⟨v,hv,h1',hr'⟩:=hc 0 x j c0 rfl hc0
        rcases hcc with rfl|⟨rfl,rfl⟩
        ·exact ⟨v,hv,h1',hr'⟩
        ·have:=hr'.inv_nils
         subst this
         exact ⟨_,hv,h1',.nsl _ _ _ hq⟩
      | i+1,hy=>simp at hy
  ·rw [List.getElem?_set_ne (Ne.symm e)] at hoo
   exact hp.heap.obj id o hoo
 ·show ∃o,((Ag h (.row z [])).set p (some (.row zz [x'])))[id]?=some (some o)
  by_cases e:id=p
  ·subst e;exact ⟨_,List.getElem?_set_self hpl⟩
  ·rw [List.getElem?_set_ne (Ne.symm e)]
   exact hp.heap.live id i hi
theorem A0 {C:Ctx} {K:ES→Prop} {n:Nat} {u:List (Nat×V)} {h:List (Option Ob)} (h':List (Option Ob)) (e:fH h fun x=>x=h') (hk:UpE C K ⟨n,u,h'⟩):UpE C K ⟨n,u,h⟩:=by
 rw [A7] at e
 rw [e];exact hk
theorem Vc {C:Ctx} {P:Program} {f:FuncId} {xs:List V} {objs0 objs1:List Ob} {fixed:List Nat} {R0:V} {fop:Operand} {args:List Operand} {K:V→ES→Prop} {σ:ES} (h:HFn P f xs objs0 fixed (fun r o=>r=R0∧o=objs1)) (hC:C.P=P) (hb:AB P f=true)
 (he:BO σ fop args=some (f,xs)) (hxs:Fj objs0.length (fun j=>j) xs xs) (hobj:∀(j:Nat) (o:Ob),objs0[j]?=some o→σ.heap[j]?=some (some o)∧Ns objs0.length (fun j=>j) o o)
 (M:List Nat) (hM:∀j,j < objs0.length→j∉M→j∈fixed) (hMi:∀j∈M,j < objs0.length) (hR:B7 objs0.length (fun j=>j) R0 R0) (hob:∀(j:Nat) (o:Ob),objs1[j]?=some o→Ns objs0.length (fun j=>j) o o) (hl:objs1.length=objs0.length)
 (hK:K R0 ⟨σ.n,DE M σ.u,BL (fun j=>j) objs1 0 (BG M σ.heap)⟩):CallN C fop args f xs K σ:=by
 refine Fy h hC hb he (fun j=>j) (fun i j _ _ e=>e) hxs (fun j o ho=>⟨o,hobj j o ho⟩) M hM (fun j hj=>⟨j,hMi j hj,rfl⟩) ?_
 rintro r0 objs' ⟨rfl,rfl⟩ _
 refine ⟨r0,objs',hR,hl,fun j o o' ho ho'=>?_,hK⟩
 rw [ho] at ho'
 cases ho'
 exact hob j o ho
theorem Ik {k:Nat} {ρ:Nat→Nat} {z:Nat} {els:List V} (h:BT els):Ns k ρ (.row z els) (.row z els):=⟨els,rfl,BA h⟩
theorem Fz {C:Ctx} {K:ES→Prop} (z:Nat) {n:Nat} {u:List (Nat×V)} {h:List (Option Ob)} (hk:UpE C K ⟨n,u,Ag h (.row z [])⟩):UpE C K ⟨n,u,h⟩:=by
 refine ⟨BS (fun a w hr=>?_) hk.out⟩
 obtain ⟨I,bl,hp⟩:=hr.parts
 exact (hp.adopt z).rel
theorem Ig {C:Ctx} {P:Program} {f:FuncId} {z m:Nat} {els' xs0 xs1:List V} {fop:Operand} {args:List Operand} {K:V→ES→Prop} {σ:ES} (h:HFn P f xs0 [.row z []] [] (fun r o=>r= .sl 0 0 m∧o=[.row z els'])) (hC:C.P=P) (hb:AB P f=true)
 (p:Nat) (he:BO σ fop args=some (f,xs1)) (hx:Fj 1 (fun _=>p) xs0 xs1) (hrow:σ.heap[p]?=some (some (.row z []))) (hn':BT els')
 (hK:Fv p σ.u fun u=>fH ((BC p σ.heap).set p (some (.row z els'))) fun h=>K (.sl p 0 m) ⟨σ.n,u,h⟩):CallN C fop args f xs1 K σ:=by
 rw [E7,A7] at hK
 refine Fy h hC hb he (fun _=>p) ?_ ?_ ?_ [p] ?_ ?_ ?_
 ·intro i j hi hj _
  simp at hi hj
  omega
 ·exact hx
 ·intro j o ho
  match j,ho with
  | 0,ho=>
    simp at ho
    subst ho
    exact ⟨_,hrow,[],rfl,BA trivial⟩
  | n+1,ho=>simp at ho
 ·intro j _ hn
  exact absurd (by simp) hn
 ·intro id hid
  simp at hid
  exact ⟨0,by simp,hid.symm⟩
 ·rintro r0 objs' ⟨rfl,rfl⟩ _
  refine ⟨.sl p 0 m,[.row z els'],by simp [B7],rfl,?_,hK⟩
  intro j o o' ho ho'
  match j,ho,ho' with
  | 0,ho,ho'=>
    simp at ho ho'
    subst ho;subst ho'
    exact ⟨els',rfl,BA hn'⟩
  | n+1,ho,_=>simp at ho
theorem B1 {C:Ctx} {P:Program} {f:FuncId} {z:Nat} {els els' xs0:List V} {R0:V} {fop:Operand} {args:List Operand} {K:V→ES→Prop} {σ:ES} (h:HFn P f (.ptr 0 0 0::xs0) [.row z els] [0] (fun r o=>r=R0∧o=[.row z els'])) (hC:C.P=P) (hb:AB P f=true)
 (p:Nat) (he:BO σ fop args=some (f,.ptr p 0 0::xs0)) (hx:BT xs0) (hR:R0.nr) (hrow:σ.heap[p]?=some (some (.row z els))) (hn:BT els) (hn':BT els')
 (hK:fH (σ.heap.set p (some (.row z els'))) fun h=>K R0 ⟨σ.n,σ.u,h⟩):CallN C fop args f (.ptr p 0 0::xs0) K σ:=by
 rw [A7] at hK
 refine Fy h hC hb he (fun _=>p) ?_ ?_ ?_ [] ?_ ?_ ?_
 ·intro i j hi hj _
  simp at hi hj
  omega
 ·simp only [Fj]
  exact ⟨.ptr p 0 0,xs0,rfl,by simp [B7],BA hx⟩
 ·intro j o ho
  match j,ho with
  | 0,ho=>
    simp at ho
    subst ho
    exact ⟨_,hrow,els,rfl,BA hn⟩
  | n+1,ho=>simp at ho
 ·intro j hj _
  simp at hj
  subst hj
  simp
 ·intro id hid
  simp at hid
 ·rintro r0 objs' ⟨rfl,rfl⟩ _
  refine ⟨r0,[.row z els'],FK r0 hR,rfl,?_,by rw [Mw];exact hK⟩
  intro j o o' ho ho'
  match j,ho,ho' with
  | 0,ho,ho'=>
    simp at ho ho'
    subst ho;subst ho'
    exact ⟨els',rfl,BA hn'⟩
  | n+1,ho,_=>simp at ho
theorem Rep.nl {w:World} {I:Nat→Prop} {bl:Nat→Option BI} {v:Value} {x:V} (h:Rep w I bl v x):Rep w I bl v x.nl:=by
 induction h with
 | pure v x h=>exact .pure _ _ h.nl
 | nsl id base z h=>exact .nsl id base z h
 | sl id off len cap b base z n e h1 h2 h3 h4 h5=>exact .sl id off len cap b base z n e h1 h2 h3 h4 h5
 | esl id off a i h=>exact .esl id off a i h
 | ptr id i j b base z n e h1 h2=>exact .ptr id i j b base z n e h1 h2
 | it id b base z h1=>exact .it id b base z h1
 | agg vs l h1 h2 h3 ih=>
   simp only [V.nl]
   refine .agg vs _ (by rw [BQ,h1]) h2 (fun i v c hv hc=>?_)
   obtain ⟨x,hx,rfl⟩:=Cv l i c hc
   exact ih i v x hv hx
 | fn f vs l h1 h2 ih=>
   simp only [V.nl]
   refine .fn f vs _ (by rw [BQ,h1]) (fun i v c hv hc=>?_)
   obtain ⟨x,hx,rfl⟩:=Cv l i c hc
   exact ih i v x hv hx
 | tup vs l h1 h2 ih=>
   simp only [V.nl]
   refine .tup vs _ (by rw [BQ,h1]) (fun i v c hv hc=>?_)
   obtain ⟨x,hx,rfl⟩:=Cv l i c hc
   exact ih i v x hv hx
theorem Ro {C:Ctx} {K:ES→Prop} (p:Nat) {z n:Nat} {els:List V} {u:List (Nat×V)} {h:List (Option Ob)} (ho:h[p]?=some (some (.row z els))) (hk:UpE C K ⟨n,u,h.set p (some (.row z (LD els)))⟩):UpE C K ⟨n,u,h⟩:=by
 refine ⟨BS (fun a w hr=>?_) hk.out⟩
 obtain ⟨I,bl,hp⟩:=hr.parts
 have hpl:p < h.length:=(List.getElem?_eq_some_iff.1 ho).1
 refine RP.rel (I:=I) (bl:=bl) ⟨hp.defers,hp.env,⟨fun id o hoo=>?_,fun id i hi=>?_,hp.heap.apart,hp.heap.own,hp.heap.imm,hp.heap.kept⟩⟩
 ·have hoo:(h.set p (some (.row z (LD els))))[id]?=some (some o):=hoo
  by_cases e:id=p
  ·subst e
   rw [List.getElem?_set_self hpl] at hoo
   simp only [Option.some.injEq] at hoo
   subst hoo
   obtain ⟨bi,h1,h2,h3,h4⟩:=hp.heap.obj id _ ho
   refine ⟨bi,h1,h2,fun i x hx=>?_,?_⟩
   ·obtain ⟨y,hy,rfl⟩:=Cv els i x hx
    rw [JV,BQ];exact h3 i y hy
   ·cases hbl:bi.blk with
    | none=>simp only [hbl] at h4 ⊢;subst h4;rfl
    | some b=>
      simp only [hbl] at h4 ⊢
      obtain ⟨cur,e,hg,hsz,hc⟩:=h4
      refine ⟨cur,e,hg,by rw [BQ];exact hsz,fun i x j c hx hxc=>?_⟩
      obtain ⟨y,hy,rfl⟩:=Cv els i x hx
      rw [JV] at hxc
      obtain ⟨c',hc',rfl⟩:=Cv _ j c hxc
      obtain ⟨u,hu,h1',hr'⟩:=hc i y j c' hy hc'
      exact ⟨u,hu,h1',hr'.nl⟩
  ·rw [List.getElem?_set_ne (Ne.symm e)] at hoo
   exact hp.heap.obj id o hoo
 ·show ∃o,(h.set p (some (.row z (LD els))))[id]?=some (some o)
  by_cases e:id=p
  ·subst e;exact ⟨_,List.getElem?_set_self hpl⟩
  ·rw [List.getElem?_set_ne (Ne.symm e)]
   exact hp.heap.live id i hi
theorem BH (id:Nat) (a b:List V):AF id (a++b)=AF id a++AF id b:=by
 induction a with
 | nil=>simp [AF]
 | cons x a ih=>simp only [List.cons_append,AF,ih]
theorem Rp (id:Nat) (els a b:List V):Ai id els (a++b)=Ai id els a++Ai id els b:=by
 induction a with
 | nil=>simp [Ai]
 | cons x a ih=>simp only [List.cons_append,Ai,ih]
theorem Bs:∀L:List Int,BT (L.map (V.int .i64))
 | []=>trivial
 | x::L=>⟨trivial,Bs L⟩
theorem A6:∀L:List Bool,BT (L.map V.bool)
 | []=>trivial
 | x::L=>⟨trivial,A6 L⟩
theorem Hw:∀L:List (List UInt8),BT (L.map V.str)
 | []=>trivial
 | x::L=>⟨trivial,Hw L⟩
theorem fC (a b:Nat) (x:V):x.nr→x.mv a b=x:=by
 refine V.rec (motive_1:=fun x=>x.nr→x.mv a b=x) (motive_2:=fun l=>BT l→G3 a b l=l) ?_ ?_ ?_ ?_ ?_ ?_ ?_ ?_ ?_ ?_ ?_ ?_ ?_ ?_ ?_ ?_ ?_ ?_ ?_ ?_ ?_ x
 all_goals first
  | (intro h;simp [V.mv,G3];done)
  | (intro a h;simp [V.mv];done)
  | (intro a b h;simp [V.mv];done)
  | (intro a b c h;simp [V.mv];done)
  | (intro a ih h;simp [V.mv];done)
  | (intro l ih h;simp only [V.mv];rw [ih h])
  | (intro f l ih h;simp only [V.mv];rw [ih h])
  | (intro a b c h;exact (h:False).elim)
  | (intro a h;exact (h:False).elim)
  | (intro x l h1 h2 h;simp only [G3];rw [h1 h.1,h2 h.2])
theorem FN (a b:Nat):∀{l:List V},BT l→G3 a b l=l
 | [],_=>by simp [G3]
 | x::l,h=>by simp only [G3];rw [fC a b x h.1,FN a b h.2]
theorem JX (l:List Bool) (hl:l.length≤1048576):HFn Tryz.prog 45 [.lst (l.map V.bool)] [.row 1 []] [] (fun r o=>r= .sl 0 0 l.length∧o=[.row 1 (l.map V.bool)]):=by
 have hlm:(l.map V.bool).length=l.length:=by simp
 have hcl:∀y∈l.map V.bool,y.cells.length=1:=fun y hy=>by obtain ⟨q,_,rfl⟩:=List.mem_map.1 hy;rfl
 have hkl:AF 2 (List.take 0 (List.drop 0 [])++l.map V.bool)=l.map V.bool:=by rw [List.drop_nil,List.take_nil,List.nil_append,AA _ (A6 l)]
 refine IJ Tryz.func45 fun C vs hC hE=>?_
 conv=>whnf
 repeat' (first|refine AO ?_|refine ⟨hcl,?_⟩|refine br (fun h=>?_) (fun h=>?_)|intro hlen)<;>conv=>whnf
 ·have h0:l=[]:=by have:=hlen (by assumption);simpa using this
  subst h0
  refine Ap (J9 2 1 rfl rfl (BN 0 (Fk 2 0 (by decide) rfl rfl (AH (BP hE ?_)))))
  conv=>whnf
  exact ⟨rfl,rfl,rfl,rfl⟩
 ·refine Ap (BN 0 (Fk 2 0 (by decide) rfl rfl (AH (BP hE ?_))))
  conv=>whnf
  refine ⟨rfl,rfl,?_,?_⟩
  ·show V.sl 0 0 (0+(l.map V.bool).length)=V.sl 0 0 l.length
   rw [hlm,Nat.zero_add]
  ·rw [hkl]
   show [Ob.row 1 (G3 2 0 (AF 0 (l.map V.bool)))]=_
   rw [AA _ (A6 l),FN _ _ (A6 l)]
end
end Go.Proofs.YtkaiffheakalmaaGreatDoor
