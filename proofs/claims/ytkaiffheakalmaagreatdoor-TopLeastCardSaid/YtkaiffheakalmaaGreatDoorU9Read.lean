/- Copied, stripped. No conditions. -/
import Derived.Test.YtkaiffheakalmaaGreatDoorU9Lib
import Derived.ProofKit
set_option linter.unusedSimpArgs false
set_option linter.unusedVariables false
set_option maxRecDepth 100000
namespace Go.Proofs.YtkaiffheakalmaaGreatDoor
open Go.RowKit
def Lb (w:World) (vs:List Value) (x:V):Prop:=
  vs.length=x.cells.length∧(∀u∈vs,u.oneCell'=true)∧∀(j:Nat) (u:Value) (c:V),vs[j]?=some u→x.cells[j]?=some c→Pr w (fun b=>b < w.heap.size) u c
def Reads (P:Program) (t:TypeId) {α:Type} (f:α→V) (ok:α→Prop) (sz:α→Nat) (n:Nat):Prop:=
  ∀(H:Type) (enc:TypeId×Value→H) (w:World) (cs:List Value) (d:DataW H) (ps:List MemPlace),DataW.trod enc P w 0 (fun _=>true) true n t cs=some (d,ps)→(∀x∈ps,x.block < w.heap.size)→
    ∃a:α,Lb w cs (f a)∧ok a∧sz a≤Rows.uptoBulk d
theorem Reads.zero {P:Program} {t:TypeId} {α:Type} {f:α→V} {ok:α→Prop} {sz:α→Nat}:Reads P t f ok sz 0:=by
  intro H enc w cs d ps h
  simp [DataW.trod] at h
theorem NY {P:Program} {t:TypeId} {k:IntKind} (ht:P.underlying t=some (.int k)) (n:Nat):Reads P t (V.int k) (fun m=>k.min≤m∧m≤k.max) (fun _=>1) n:=by
  cases n with
  | zero=>exact Reads.zero
  | succ n=>
    intro H enc w cs d ps h hps
    have hc:∃m,cs=[.int k m]∧d= .lit (.int k m)∧(Lit.int k m).wf=true:=by
      cases cs with
      | nil=>simp [DataW.trod,ht] at h
      | cons v r=>cases r with
        | nil=>cases v<;>simp [DataW.trod,ht] at h<;>(obtain ⟨⟨rfl,hw⟩,rfl,_⟩:=h;exact ⟨_,rfl,rfl,hw⟩)
        | cons v' r=>cases v<;>simp [DataW.trod,ht] at h
    obtain ⟨m,rfl,rfl,hw⟩:=hc
    refine ⟨m,⟨rfl,fun u hu=>by simp at hu;subst hu;rfl,fun j u c hu hc=>by
      cases j with
      | zero=>simp [V.cells] at hu hc;subst hu;subst hc;exact .int k m
      | succ j=>simp at hu⟩,by simpa [Lit.wf] using hw,by simp [Rows.uptoBulk]⟩
theorem NZ {α β:Type} {f:β→Option α}:∀{xs:List β} {l:List α},xs.mapM f=some l→l.length=xs.length∧∀(i:Nat) (k:β),xs[i]?=some k→∃x,f k=some x∧l[i]?=some x:=by
  intro xs
  induction xs with
  | nil=>intro l h;simp at h;subst h;exact ⟨rfl,fun i k hk=>by simp at hk⟩
  | cons y ys ih=>
    intro l h
    simp only [List.mapM_cons] at h
    cases hy:f y with
    | none=>simp [hy] at h
    | some b=>
      cases hys:ys.mapM f with
      | none=>simp [hy,hys] at h
      | some bs=>
        simp [hy,hys] at h
        subst h
        obtain ⟨h1,h2⟩:=ih hys
        refine ⟨by simp [h1],fun i k hk=>?_⟩
        cases i with
        | zero=>simp at hk;subst hk;exact ⟨b,hy,rfl⟩
        | succ i=>simpa using h2 i k (by simpa using hk)
theorem Pp {H α:Type} (sz:α→Nat):∀(l:List α) (ds:List (DataW H)),l.length=ds.length→(∀(i:Nat) (a:α) (d:DataW H),l[i]?=some a→ds[i]?=some d→sz a≤Rows.uptoBulk d)→(l.map sz).sum≤Rows.uptoBulkAll ds
  | [],[],_,_=>by simp [Rows.uptoBulkAll]
  | a::l,d::ds,hl,h=>by
    have h0:=h 0 a d rfl rfl
    have:=Pp sz l ds (by simpa using hl) (fun i a d ha hd=>h (i+1) a d (by simpa using ha) (by simpa using hd))
    simp [Rows.uptoBulkAll]
    omega
  | [],_::_,hl,_=>by simp at hl
  | _::_,[],hl,_=>by simp at hl
theorem Pq {P:Program} {t e:TypeId} {α:Type} {f:α→V} {ok:α→Prop} {sz:α→Nat} {n z:Nat} (ht:P.underlying t=some (.slice e)) (hz:P.cellsOf e=z) (hf:∀a,(f a).cells.length=z) (hz0:z≠0) (h:Reads P e f ok sz n):
    Reads P t (fun l:List α=>.lst (l.map f)) (fun l=>l.length≤maxLen∧∀a∈l,ok a) (fun l=>(l.map sz).sum+1) (n+1):=by
  intro H enc w cs d ps hd hps
  have hc:(cs=[.slice none 0 0]∧d= .nil)∨∃(a:Addr) (len cap:Nat) (elems rest:List (DataW H×List MemPlace)),cs=[.slice (some a) len cap]∧len≤cap∧cap≤maxLen∧
      (List.range len).mapM (fun i=>(w.cells? 0 (a.add (i*z)) z).bind (DataW.trod enc P w 0 (fun _=>true) true n e))=some elems∧d= .slice (elems.map (·.1)) (rest.map (·.1))∧ps=MemPlace.row a ((elems.length+rest.length)*z)++(elems++rest).flatMap (·.2):=by
    cases cs with
    | nil=>simp [DataW.trod,ht] at hd
    | cons v r=>cases r with
      | cons v' r=>cases v<;>simp [DataW.trod,ht] at hd
      | nil=>
        cases v with
        | slice a len cap=>
          cases a with
          | none=>
            cases len with
            | zero=>cases cap with
              | zero=>simp [DataW.trod,ht] at hd;exact .inl ⟨rfl,hd.1.symm⟩
              | succ c=>simp [DataW.trod,ht] at hd
            | succ l=>simp [DataW.trod,ht] at hd
          | some a=>
            right
            simp only [DataW.trod,ht,hz] at hd
            split at hd
            . rename_i hc
              cases hel:(List.range len).mapM (fun i=>(w.cells? 0 (a.add (i*z)) z).bind (DataW.trod enc P w 0 (fun _=>true) true n e)) with
              | none=>simp [hel] at hd
              | some elems=>
                simp only [hel,Option.bind_some,if_true] at hd
                cases hre:(List.range (cap - len)).mapM (fun j=>(w.cells? 0 (a.add ((len+j)*z)) z).bind (DataW.trod enc P w 0 (fun _=>true) true n e)) with
                | none=>simp [hre] at hd
                | some rest=>
                  simp only [hre,Option.map_some,Option.some.injEq,Prod.mk.injEq] at hd
                  exact ⟨a,len,cap,elems,rest,rfl,hc.2.1,hc.2.2,hel,hd.1.symm,hd.2.symm⟩
            . cases hd
        | _=>simp [DataW.trod,ht] at hd
  rcases hc with ⟨rfl,rfl⟩|⟨a,len,cap,elems,rest,rfl,hlc,hcm,hel,rfl,rfl⟩
  . exact ⟨[],⟨rfl,fun u hu=>by simp at hu;subst hu;rfl,fun j u c hu hc=>by
      cases j with
      | zero=>simp [V.cells] at hu hc;subst hu;subst hc;exact .lnil none 0
      | succ j=>simp at hu⟩,⟨by simp [maxLen],by simp⟩,by simp [Rows.uptoBulk]⟩
  . obtain ⟨hl,hi⟩:=NZ hel
    simp only [List.length_range] at hl
    have each:∀i:Fin len,∃x:α×List Value,w.cells? 0 (a.add (i*z)) z=some x.2∧Lb w x.2 (f x.1)∧ok x.1∧∀y,elems[i.val]?=some y→sz x.1≤Rows.uptoBulk y.1:=by
      intro i
      obtain ⟨y,hy,hyi⟩:=hi i.val i.val (by simp)
      cases hcs:w.cells? 0 (a.add (i*z)) z with
      | none=>simp [hcs] at hy
      | some vs=>
        simp only [hcs,Option.bind_some] at hy
        obtain ⟨x,h1,h2,h3⟩:=h H enc w vs y.1 y.2 hy (fun p hp=>hps p (by
          simp only [List.mem_append,List.mem_flatMap]
          right
          exact ⟨y,.inl (List.mem_of_getElem? hyi),hp⟩))
        refine ⟨(x,vs),rfl,h1,h2,fun y' hy'=>?_⟩
        rw [hyi] at hy'
        simp only [Option.some.injEq] at hy'
        subst hy'
        exact h3
    obtain ⟨g,hg⟩:=Classical.axiomOfChoice each
    have hget:∀i (hi:i < len),(List.ofFn fun i=>(g i).1)[i]?=some (g ⟨i,hi⟩).1:=by
      intro i hi
      rw [List.getElem?_ofFn,dif_pos hi]
    refine ⟨List.ofFn fun i=>(g i).1,⟨rfl,fun u hu=>by simp at hu;subst hu;rfl,fun j u c hu hc=>?_⟩,⟨by simp;omega,fun x hx=>?_⟩,?_⟩
    . cases j with
      | succ j=>simp at hu
      | zero=>
        simp [V.cells] at hu hc
        subst hu;subst hc
        by_cases h0:len=0
        . subst h0
          simp only [List.ofFn_zero,List.map_nil]
          exact .lnil _ _
        . have hcell:∀(i:Fin len) (j:Nat) (u:Value),(g i).2[j]?=some u→j < z∧w.cell? (((a.add (i*z))).add j)=some u:=by
            intro i j u hu
            have hc:=(hg i).1
            unfold World.cells? at hc
            rw [if_pos (Nat.zero_le _)] at hc
            obtain ⟨h1,h2⟩:=NZ hc
            simp only [List.length_range] at h1
            have hj:j < z:=by rw [←h1];exact (List.getElem?_eq_some_iff.1 hu).1
            obtain ⟨u',hu',hu2⟩:=h2 j j (by simp [hj])
            rw [hu] at hu2
            simp only [Option.some.injEq] at hu2
            subst hu2
            exact ⟨hj,hu'⟩
          obtain ⟨b,off,spot⟩:=a
          -- the row's places are plain
          . have hlen2:∀i:Fin len,(g i).2.length=z:=fun i=>by rw [(hg i).2.1.1,hf]
            have hspot:spot=none:=by
              have h1:0 < (g ⟨0,by omega⟩).2.length:=by rw [hlen2];omega
              have h2:=(hcell ⟨0,by omega⟩ 0 _ (List.getElem?_eq_getElem h1)).2
              simpa [Addr.add] using World.cell?_spot h2
            subst hspot
            let u:Nat→Nat→Value:=fun i j=>if hi:i < len then (g ⟨i,hi⟩).2.getD j (.bool true) else .bool true
            have:=Pr.lst (w:=w) (I:=fun b=>b < w.heap.size) b off cap z ((List.ofFn fun i=>(g i).1).map f) u (by
                have:=hps (.cell b off) (by
                  simp only [List.mem_append]
                  left
                  exact MemPlace.mem_row.2 ⟨0,Nat.mul_pos (by omega) (by omega),by simp⟩)
                exact this) (by simp;omega) hcm (by
                intro i x hx
                simp only [List.getElem?_map,Option.map_eq_some_iff] at hx
                obtain ⟨y,_,rfl⟩:=hx
                exact hf y) (by
                intro i j hi hj
                simp only [List.length_map,List.length_ofFn] at hi
                have hj':j < (g ⟨i,hi⟩).2.length:=by rw [hlen2];exact hj
                have:=(hcell ⟨i,hi⟩ j _ (List.getElem?_eq_getElem hj')).2
                rw [Addr.add_lit,Addr.add_lit] at this
                rw [this]
                simp only [u,dif_pos hi]
                simp [List.getD,List.getElem?_eq_getElem hj']) (by
                intro i j
                simp only [u]
                split
                . rename_i hi
                  by_cases hj:j < (g ⟨i,hi⟩).2.length
                  . simp only [List.getD,List.getElem?_eq_getElem hj,Option.getD_some]
                    exact (hg ⟨i,hi⟩).2.1.2.1 _ (List.getElem_mem hj)
                  . simp only [List.getD,List.getElem?_eq_none (Nat.le_of_not_lt hj),Option.getD_none]
                    rfl
                . rfl) (by
                intro i x j c hx hc
                simp only [List.getElem?_map,Option.map_eq_some_iff] at hx
                obtain ⟨y,hy,rfl⟩:=hx
                have hi:i < len:=by
                  have:=(List.getElem?_eq_some_iff.1 hy).1
                  simpa using this
                rw [hget i hi] at hy
                simp only [Option.some.injEq] at hy
                subst hy
                have hj:j < (g ⟨i,hi⟩).2.length:=by rw [(hg ⟨i,hi⟩).2.1.1];exact (List.getElem?_eq_some_iff.1 hc).1
                simp only [u,dif_pos hi]
                simp only [List.getD,List.getElem?_eq_getElem hj,Option.getD_some]
                exact (hg ⟨i,hi⟩).2.1.2.2 j _ c (List.getElem?_eq_getElem hj) hc)
            simpa using this
    . simp only [List.mem_ofFn] at hx
      obtain ⟨i,rfl⟩:=hx
      exact (hg i).2.2.1
    . simp only [Rows.uptoBulk]
      have:=Pp (H:=H) sz (List.ofFn fun i=>(g i).1) (elems.map (·.1)) (by simp [hl]) (by
        intro i x d hx hd
        have hi:i < len:=by
          have:=(List.getElem?_eq_some_iff.1 hx).1
          simpa using this
        rw [hget i hi] at hx
        simp only [Option.some.injEq] at hx
        subst hx
        simp only [List.getElem?_map,Option.map_eq_some_iff] at hd
        obtain ⟨y,hy,rfl⟩:=hd
        exact (hg ⟨i,hi⟩).2.2.2 y hy)
      omega
theorem Reads.as {P:Program} {t:TypeId} {α β:Type} {f:α→V} {f':β→V} {ok:α→Prop} {ok':β→Prop} {sz:α→Nat} {sz':β→Nat} {n:Nat} (h:Reads P t f ok sz n) (to:α→β) (h1:∀a,f' (to a)=f a) (h2:∀a,ok a→ok' (to a)) (h3:∀a,sz' (to a)≤sz a):
    Reads P t f' ok' sz' n:=by
  intro H enc w cs d ps hd hps
  obtain ⟨a,g1,g2,g3⟩:=h H enc w cs d ps hd hps
  exact ⟨to a,by rw [h1];exact g1,h2 a g2,Nat.le_trans (h3 a) g3⟩
theorem ZN {w:World} {v:Value} {x:V} (hv:v.cells=#[v]) (hx:x.cells=[x]) (h:Lb w v.cells.toList x):Pr w (fun b=>b < w.heap.size) v x:=
  h.2.2 0 v x (by rw [hv];rfl) (by rw [hx];rfl)
theorem ZO {P:Program} {t:TypeId} {α:Type} {f:α→V} {ok:α→Prop} {sz:α→Nat} (h:∀n,Reads P t f ok sz n) (hf:∀a,(f a).cells=[f a]) {H:Type} {enc:TypeId×Value→H} {w:World} {v:Value} {d:DataW H} {ps:List MemPlace} (hv:v.cells=#[v])
    (hd:DataW.Trod enc P w 0 (fun _=>true) true t v d ps) (hps:∀x∈ps,x.block < w.heap.size):∃a,Pr w (fun b=>b < w.heap.size) v (f a)∧ok a∧sz a≤Rows.uptoBulk d:=by
  obtain ⟨fuel,hd⟩:=hd
  obtain ⟨a,h1,h2,h3⟩:=h fuel H enc w _ d ps hd hps
  exact ⟨a,ZN hv (hf a) h1,h2,h3⟩
end Go.Proofs.YtkaiffheakalmaaGreatDoor
