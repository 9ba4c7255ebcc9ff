/- Joined. No conditions. -/
import Derived.Test.YtkaiffheakalmaaGreatDoorJ9ad
set_option linter.unusedSimpArgs false
set_option linter.unusedVariables false
set_option maxRecDepth 100000
namespace Go.Proofs.YtkaiffheakalmaaGreatDoor
open Go.RowKit
def gV (P:Program) (e:TypeId) (z:Nat):Bool:=
 match ZI P e with
 | some zv=>zv.cells.size==z&&zv.cells.toList.all (·.oneCell')&&decide (0 < z)
 | none=>false
def Nu (P:Program) (t:TypeId):Nat:=((P.info? t).map (·.bytes)).getD 0
def En (P:Program) (t:TypeId):Bool:=match P.underlying t with|some (.slice _)=>true|some .string=>true|_=>false
theorem Lr {P:Program} {e:TypeId} {z:Nat} (h:gV P e z=true):∃i zv,P.info? e=some i∧i.zero=some zv∧ZI P e=some zv∧zv.cells.size=z∧(∀u∈zv.cells.toList,u.oneCell'=true)∧0 < z:=by
 unfold gV at h
 split at h
 ·rename_i zv hz
  simp only [Bool.and_eq_true,beq_iff_eq,decide_eq_true_eq] at h
  have hz':=hz
  unfold ZI at hz
  cases hi:P.info? e with
  | none=>simp [hi] at hz
  | some i=>
    simp [hi] at hz
    exact ⟨i,zv,rfl,hz,hz',h.1.1,fun u hu=>List.all_eq_true.1 h.1.2 u hu,h.2⟩
 ·cases h
section
variable {P:Program} {t t' ty e:TypeId} {i:TypeInfo} {zv:Value} {z by':Nat}
theorem F5 (w:World) (ht:P.underlying t=some (.slice e)) (hi:P.info? e=some i) (hiz:i.size=z) (ht':En P t'=true) {g o sLen sCap:Nat} {cur:Array Value} {e':TypeId} (hgc:CellsAt z w g cur e')
 {x:Value} {m:Nat} {news:List Value} (hlen:∀w',(Builtin.lenOf x).run P w'= .ok m w') (hf:(Builtin.firstCells z m x).run P w= .ok news.toArray w) (h1:∀u∈news,u.oneCell'=true)
 (hroom:sLen+m≤sCap) (hfit:o+sLen*z+news.length≤cur.size):
 (Builtin.append_ #[t,t'] ty #[.slice (some ⟨g,o,none⟩) sLen sCap,x]).run P w=
  .ok (.slice (some ⟨g,o,none⟩) (sLen+m) sCap) (w.setRow g (cur.toList.take (o+sLen*z)++news++cur.toList.drop (o+sLen*z+news.length)).toArray):=by
 subst hiz
 obtain ⟨fz,hfz,hg⟩:=hgc
 have hst:=CL (P:=P) g (o+sLen*i.size) e' fz news 0 cur w hg hfz (by simpa using hfit) h1
 simp only [Nat.add_zero] at hst
 unfold En at ht'
 split at ht'
 ·rename_i e2 hu
  simp [Builtin.append_,run_underlying ht,run_underlying hu,sizeOf,typeInfo,hi,hlen,hroom,hf,Addr.add_lit,hst]
 ·rename_i hu
  simp [Builtin.append_,run_underlying ht,run_underlying hu,sizeOf,typeInfo,hi,hlen,hroom,hf,Addr.add_lit,hst]
 ·cases ht'
theorem DS (w:World) (ht:P.underlying t=some (.slice e)) (hi:P.info? e=some i) (ht':En P t'=true) {x:Value} (hlen:∀w',(Builtin.lenOf x).run P w'= .ok 0 w') (hf:(Builtin.firstCells i.size 0 x).run P w= .ok #[] w):
 (Builtin.append_ #[t,t'] ty #[.slice none 0 0,x]).run P w= .ok (.slice none 0 0) w:=by
 unfold En at ht'
 split at ht'
 ·rename_i e2 hu
  simp [Builtin.append_,run_underlying ht,run_underlying hu,sizeOf,typeInfo,hi,hlen,hf]
 ·rename_i hu
  simp [Builtin.append_,run_underlying ht,run_underlying hu,sizeOf,typeInfo,hi,hlen,hf]
 ·cases ht'
theorem IB (w:World) (ht:P.underlying t=some (.slice e)) (hi:P.info? e=some i) (ht':En P t'=true) {a:Addr} {x:Value} (hlen:∀w',(Builtin.lenOf x).run P w'= .ok 0 w') (hf:(Builtin.firstCells i.size 0 x).run P w= .ok #[] w):
 (Builtin.append_ #[t,t'] ty #[.slice (some a) 0 0,x]).run P w= .ok (.slice (some a) 0 0) w:=by
 unfold En at ht'
 split at ht'
 ·rename_i e2 hu
  simp [Builtin.append_,run_underlying ht,run_underlying hu,sizeOf,typeInfo,hi,hlen,hf,storeCells]
 ·rename_i hu
  simp [Builtin.append_,run_underlying ht,run_underlying hu,sizeOf,typeInfo,hi,hlen,hf,storeCells]
 ·cases ht'
theorem Dy (w:World) (ht:P.underlying t=some (.slice e)) (hi:P.info? e=some i) (hiz:i.size=z) (hz:i.zero=some zv) (ht':En P t'=true) {s:Option Addr} {sLen sCap:Nat} {olds:List Value} (ho:(Builtin.firstCells z sLen (.slice s sLen sCap)).run P w.drew= .ok olds.toArray w.drew)
 {x:Value} {m:Nat} {news:List Value} (hlen:∀w',(Builtin.lenOf x).run P w'= .ok m w') (hf:(Builtin.firstCells z m x).run P w.drew= .ok news.toArray w.drew)
 (hg:sCap < sLen+m) (h63:sLen+m≤maxLen) (hb:(sLen+m)*i.bytes≤140737488355328):
 (Builtin.append_ #[t,t'] ty #[.slice s sLen sCap,x]).run P w=
  .ok (.slice (some ⟨w.heap.size,0,none⟩) (sLen+m) (grownCap w (sLen+m) sCap e)) (w.drew.alloc (.cells (olds.toArray++news.toArray++Builtin.zeroCells zv.cells (grownCap w (sLen+m) sCap e - (sLen+m))) e)):=by
 subst hiz
 have hn:¬(sLen+m≤sCap):=by omega
 have h63':¬(9223372036854775807 < ((sLen:Int)+(m:Int))):=by simp only [maxLen] at h63;omega
 have hfit:¬(281474976710656 < Builtin.nextslicecap (sLen+m) sCap*i.bytes):=by
  have h:=Go.Room.nextslicecap_le' (need:=sLen+m) (old:=sCap) hg
  have h2:=Nat.mul_le_mul_right i.bytes h
  rw [Nat.mul_assoc] at h2
  omega
 unfold En at ht'
 split at ht'
 ·rename_i e2 hu
  simp [Builtin.append_,run_underlying ht,run_underlying hu,sizeOf,typeInfo,zeroValue,hi,hz,hlen,hn,h63',hfit,Question.forced,newRow,grownCap,ho,hf]
  try (congr 2;apply Array.ext';simp [List.append_assoc])
 ·rename_i hu
  simp [Builtin.append_,run_underlying ht,run_underlying hu,sizeOf,typeInfo,zeroValue,hi,hz,hlen,hn,h63',hfit,Question.forced,newRow,grownCap,ho,hf]
  try (congr 2;apply Array.ext';simp [List.append_assoc])
 ·cases ht'
end
def HB (σ:St) (z:Nat) (x:V) (k:List V→Prop):Prop:=
 match x with
 | .lst l=>(∀y∈l,y.cells.length=z)∧k l
 | .nils=>k []
 | .sl id off n=>match σ.row id with
   | some (z',els)=>z'=z∧off+n≤els.length∧k ((els.drop off).take n)
   | none=>False
 | .str b=>z=1∧k (b.map fun c=>.int .u8 c.toNat)
 | _=>False
theorem YG {C:Ctx} {σ:St} {z:Nat} {x:Operand} {k:List V→Prop} (h:HB σ z (σ.val x) k):∃els,k els∧∀a w I bl,RP C σ a w I bl→∃news,Src C.P w I bl z (a.eval x) els news:=by
 unfold HB at h
 split at h
 ·rename_i l hx
  exact ⟨l,h.2,fun a w I bl hp=>Uz (by have:=hp.val x;rw [hx] at this;exact this) h.1⟩
 ·rename_i hx
  refine ⟨[],h,fun a w I bl hp=>?_⟩
  have:=hp.val x
  rw [hx] at this
  rw [this.inv_nils]
  exact ⟨_,F4 none 0⟩
 ·rename_i id off n hx
  split at h
  ·rename_i z' els hrow
   obtain ⟨rfl,hn,hk⟩:=h
   exact ⟨_,hk,fun a w I bl hp=>PV hp (by have:=hp.val x;rw [hx] at this;exact this) hrow hn⟩
  ·exact h.elim
 ·rename_i b hx
  obtain ⟨rfl,hk⟩:=h
  refine ⟨_,hk,fun a w I bl hp=>?_⟩
  have:=hp.val x
  rw [hx] at this
  obtain ⟨s,hs,rfl,_⟩:=this.inv_str
  rw [hs]
  exact ⟨_,U0 s⟩
 ·exact h.elim
def Ls (C:Ctx) (e:TypeId) (z:Nat) (s:V) (K:V→St→Prop) (σ:St) (news:List V):Prop:=
 match s with
 | .nils=>news.length≤maxLen∧news.length*Nu C.P e≤140737488355328∧K (.sl (AG σ.heap) 0 news.length) { σ with heap:=Ag σ.heap (.row z news)}
 | .sl id off n=>match σ.row id with
   | some (z',els)=>z'=z∧off+n≤els.length∧n+news.length≤maxLen∧(n+news.length)*Nu C.P e≤140737488355328∧
      K (.sl id 0 (n+news.length)) { env:=AF id σ.env,heap:=(BC id σ.heap).set id (some (.row z (AF id ((els.drop off).take n++news))))}
   | none=>False
 | _=>False
def Qt (C:Ctx) (t t':TypeId) (s x:V) (K:V→St→Prop) (σ:St):Prop:=
 match EI C.P t with
 | some (e,z)=>gV C.P e z=true∧En C.P t'=true∧HB σ z x (Ls C e z s K σ)
 | none=>False
theorem Eo {C:Ctx} {a:Act} {o:Oper} {s x:Operand} {t t':TypeId} (ho:o.op= .call { callee:=.builtin .append,args:=#[s,x],argTypes:=#[t,t']}) {w w':World} {v:Value} (h:(Builtin.append_ #[t,t'] o.type #[a.eval s,a.eval x]).run C.P w= .ok v w'):
 (execOp a.eval o).run C.P w= .ok (.value v) w':=by
 simp [execOp,ho,resolve,invoke,builtin,h]
theorem WG {C:Ctx} {σ:St} {a:Act} {w:World} {I:Nat→Prop} {bl:Nat→Option BI} (hp:RP C σ a w I bl) (o:Obj):Later I w (w.drew.alloc o):=by
 have h:=EW I w.drew o (fun b hb=>(hp.heap.imm b hb).1)
 exact ⟨h.block,h.shape⟩
theorem Lt {P:Program} {w:World} {I:Nat→Prop} {bl:Nat→Option BI} {z:Nat} {x:Value} {els:List V} {news:List Value} (h:Src P w I bl z x els news) (h0:els.length=0):news=[]:=
 List.eq_nil_of_length_eq_zero (by rw [h.cells.1,h0,Nat.zero_mul])
theorem eQ {C:Ctx} {o:Oper} {σ:St} {K:V→St→Prop} {t t':TypeId} {s x:Operand} (ho:o.op= .call { callee:=.builtin .append,args:=#[s,x],argTypes:=#[t,t']}) (h:Qt C t t' (σ.val s) (σ.val x) K σ):Bc C o σ K:=by
 unfold Qt at h
 split at h
 ·rename_i e z hei
  obtain ⟨hz,ht',h⟩:=h
  obtain ⟨hu,bb,hte⟩:=Ev hei
  obtain ⟨i,zv,hi,hiz,_,hzs,hz1,hz0⟩:=Lr hz
  have hisz:i.size=z:=by
   unfold TI at hte
   rw [hi] at hte
   split at hte
   ·rename_i d i' _ hi'
    simp only [Option.some.injEq] at hi'
    subst hi'
    simp only [Option.some.injEq,Prod.mk.injEq] at hte
    exact hte.2
   ·cases hte
  have hby:Nu C.P e=i.bytes:=by simp [Nu,hi]
  obtain ⟨els,hk,hsrc⟩:=YG (C:=C) h
  refine Ak fun a w I bl hp=>?_
  obtain ⟨news,hS⟩:=hsrc a w I bl hp
  have hfirst:=hS.first w rfl
  have hfirstd:=hS.first w.drew rfl
  unfold Ls at hk
  have zlen:∀n,(Builtin.zeroCells zv.cells n).size=n*z:=fun n=>by rw [size_zeroCells,hzs]
  split at hk
  ·rename_i hs
   obtain ⟨hmax,hbytes,hk⟩:=hk
   have hv:=hp.val s
   rw [hs] at hv
   have hv:=hv.inv_nils
   by_cases h0:els.length=0
   ·have hn:news=[]:=Lt hS h0
    have he:els=[]:=List.eq_nil_of_length_eq_zero h0
    subst hn;subst he
    refine ⟨.slice none 0 0,w,_,_,Eo ho ?_,hk,(hp.adopt z).relx ?_⟩
    ·rw [hv]
     exact DS w hu hi ht' hS.len (by rw [hisz];exact hfirst)
    ·exact .nsl _ _ _ (AT _ _ _)
   ·have hr:=Dy (P:=C.P) (ty:=o.type) (s:=none) (sLen:=0) (sCap:=0) (olds:=[]) w hu hi hisz hiz ht' (by simp [Builtin.firstCells]) hS.len hfirstd (by omega) (by omega) (by rw [Nat.zero_add,←hby];exact hbytes)
    simp only [Nat.zero_add] at hr
    have hge:=grownCap_ge w els.length 0 e
    have hcm:=grownCap_le_maxLen w els.length 0 e hmax
    refine ⟨_,_,_,_,Eo ho (by rw [hv];exact hr),hk,?_⟩
    have hal:=hp.drew.alloc (#[]++news.toArray++Builtin.zeroCells zv.cells (grownCap w els.length 0 e - els.length)) e z els hS.cells.2.2.1 (by simp [hS.cells.1]) (by
     intro i x j c hx hc
     have hi:i < els.length:=(List.getElem?_eq_some_iff.1 hx).1
     have hj:j < z:=by rw [←hS.cells.2.2.1 i x hx];exact (List.getElem?_eq_some_iff.1 hc).1
     have hm:(i+1)*z≤els.length*z:=Nat.mul_le_mul_right z hi
     rw [Nat.add_mul] at hm
     have hlt:i*z+j < news.length:=by rw [hS.cells.1];omega
     refine ⟨news[i*z+j],?_,hS.cells.2.1 _ (List.getElem_mem hlt),(hS.cells.2.2.2 i x j c _ hx hc (List.getElem?_eq_getElem hlt)).later ⟨fun _ _=>rfl,fun _ _ h=>h⟩ (fun _ h=>h) (fun _ _ h=>h)⟩
     rw [Array.getElem?_append_left (by simpa using hlt)]
     simp [List.getElem?_eq_getElem hlt])
    refine hal.relx ?_
    have:=Rep.sl (w:=w.drew.alloc (.cells (#[]++news.toArray++Builtin.zeroCells zv.cells (grownCap w els.length 0 e - els.length)) e)) (I:=I) (AG σ.heap) 0 els.length (grownCap w els.length 0 e) w.drew.heap.size 0 z _ e (AT bl _ _) (E6 w.drew _ e)
     (by simp only [Array.size_append,List.size_toArray,zlen,hS.cells.1,Nat.sub_mul]
         have:=Nat.mul_le_mul_right z hge
         simp
         omega) hge hcm
    simpa using this
  ·rename_i id off n hs
   split at hk
   ·rename_i z' eo hrow
    obtain ⟨rfl,hoff,hmax,hbytes,hk⟩:=hk
    have hv:=hp.val s
    rw [hs] at hv
    have fin:∀(w':World) (bi:BI) (us:List Value) (v:Value),(Builtin.append_ #[t,t'] o.type #[a.eval s,a.eval x]).run C.P w= .ok v w'→Later I w w'→Kept C.E C.W0 w'→w.heap.size≤w'.heap.size→
     (∃i0,bl id=some i0)→(∀k i b,k≠id→bl k=some i→i.blk=some b→w'.heap[b]?=w.heap[b]?)→(∀b,bi.blk=some b→b < w'.heap.size∧¬I b∧(C.E b∨C.W0.heap.size≤b)∧∀k i b',k≠id→bl k=some i→i.blk=some b'→b'≠b)→
     ObRep w' I (GQ bl id bi) id (.row z' (AF id ((eo.drop off).take n++els)))→Rep w' I (GQ bl id bi) v (.sl id 0 (n+els.length))→
     ∃v w' r σ',(execOp a.eval o).run C.P w= .ok (.value v) w'∧K r σ'∧IA C σ' [r] a w' [v]:=by
     intro w' bi us v h1 h2 h3 h4 ⟨i0,h5⟩ h6 h7 h8 h9
     exact ⟨v,w',_,_,Eo ho h1,hk,(hp.replace h5 h2 h3 h4 h6 bi h7 h8).relx h9⟩
    have huo:∀bi k,k≠id→GQ bl id bi k=bl k:=fun bi k hk=>Aa hk
    have grow:∀(base:Option Addr) (cap:Nat) (olds:List Value) (i0:BI),bl id=some i0→a.eval s= .slice base n cap→(Builtin.firstCells z' n (.slice base n cap)).run C.P w.drew= .ok olds.toArray w.drew→CellsOf w I bl z' ((eo.drop off).take n) olds→cap < n+els.length→
     ∃v w' r σ',(execOp a.eval o).run C.P w= .ok (.value v) w'∧K r σ'∧IA C σ' [r] a w' [v]:=by
     intro base cap olds i0 hbl hv holds hco hlt
     have hr:=Dy (P:=C.P) (ty:=o.type) w hu hi hisz hiz ht' holds hS.len hfirstd hlt hmax (by rw [←hby];exact hbytes)
     have hge:=grownCap_ge w (n+els.length) cap e
     have hcm:=grownCap_le_maxLen w (n+els.length) cap e hmax
     have hl:=WG hp (.cells (olds.toArray++news.toArray++Builtin.zeroCells zv.cells (grownCap w (n+els.length) cap e - (n+els.length))) e)
     have hlen:((eo.drop off).take n).length=n:=by simp;omega
     have happ:=hco.append hS.cells
     have hszc:(olds++news).length=(n+els.length)*z':=by rw [happ.1];simp only [List.length_append,hlen]
     refine fin _ ⟨some w.heap.size,0,z'⟩ [] _ (by rw [hv];exact hr) hl (hp.heap.kept.drew.alloc _) (by simp) ⟨i0,hbl⟩ ?_ ?_ ?_ ?_
     ·intro k i b hk h1 h2
      exact BE w.drew _ b (hp.heap.own k i b h1 h2).1
     ·intro b hb
      simp only [Option.some.injEq] at hb
      subst hb
      refine ⟨by simp,fun h=>?_,.inr hp.heap.kept.size,?_⟩
      ·have:=(hp.heap.imm _ h).1;omega
      ·intro k i b' hk h1 h2 e1
       have:=(hp.heap.own k i b' h1 h2).1
       omega
     ·refine HA (AT _ _ _) (.of (heap_alloc_new w.drew _)) ((happ.later hl (fun _ h=>h) (fun _ _ h=>h)).kill id (huo _)) ?_ ?_
      ·rw [AQ]
       have h1:=happ.1
       simp only [Array.size_append,List.size_toArray]
       rw [List.length_append] at h1
       omega
      ·intro p hp'
       rw [Nat.zero_add,Array.getElem?_append_left (by simpa using hp')]
       simp
     ·have:=Rep.sl (w:=w.drew.alloc (.cells (olds.toArray++news.toArray++Builtin.zeroCells zv.cells (grownCap w (n+els.length) cap e - (n+els.length))) e)) (I:=I) id 0 (n+els.length) (grownCap w (n+els.length) cap e) w.drew.heap.size 0 z' _ e (AT bl _ _) (E6 w.drew _ e)
       (by simp only [Array.size_append,List.size_toArray,zlen,←List.length_append,hszc,Nat.sub_mul]
           have:=Nat.mul_le_mul_right z' hge
           simp
           omega) hge hcm
      simpa using this
    rcases hv.inv_sl with ⟨base,z2,hbl,rfl,rfl,hv2⟩|⟨p,i0,hbl,rfl,hv2⟩|⟨cap,b,base,z2,m,e',hbl,hsh,hsz,hlc,hcm,hv2⟩
    ·by_cases h0:els.length=0
     ·have hn:news=[]:=Lt hS h0
      have he:els=[]:=List.eq_nil_of_length_eq_zero h0
      subst hn;subst he
      refine fin w ⟨none,base,z'⟩ [] (.slice none 0 0) (by rw [hv2];exact DS w hu hi ht' hS.len (by rw [hisz];exact hfirst)) (Later.refl _ _) hp.heap.kept (Nat.le_refl _) ⟨_,hbl⟩ (fun _ _ _ _ _ _=>rfl) (fun b hb=>by cases hb) ?_ ?_
      ·exact ⟨_,AT _ _ _,rfl,by simp [AF],by simp [AF]⟩
      ·exact .nsl _ _ _ (AT _ _ _)
     ·exact grow none 0 [] _ hbl hv2 (by simp [Builtin.firstCells]) (by simp only [List.take_zero];exact ⟨by simp,by simp,by simp,by simp⟩) (by omega)
    ·by_cases h0:els.length=0
     ·have hn:news=[]:=Lt hS h0
      have he:els=[]:=List.eq_nil_of_length_eq_zero h0
      subst hn;subst he
      refine fin w ⟨none,0,z'⟩ [] (.slice (some p) 0 0) (by rw [hv2];exact IB w hu hi ht' hS.len (by rw [hisz];exact hfirst)) (Later.refl _ _) hp.heap.kept (Nat.le_refl _) ⟨_,hbl⟩ (fun _ _ _ _ _ _=>rfl) (fun b hb=>by cases hb) ?_ ?_
      ·exact ⟨_,AT _ _ _,rfl,by simp [AF],by simp [AF]⟩
      ·exact .esl _ _ _ _ (AT _ _ _)
     ·exact grow (some p) 0 [] _ hbl hv2 (by simp [Builtin.firstCells,loadCells,loadCellsFrom]) (by simp only [List.take_zero];exact ⟨by simp,by simp,by simp,by simp⟩) (by omega)
    ·obtain ⟨cur,ec,rfl,hg,hszc,hco⟩:=I4 hp hrow hbl hoff
     have hmo:(off+n)*z2≤eo.length*z2:=Nat.mul_le_mul_right z2 hoff
     rw [Nat.add_mul] at hmo
     have hlenO:((cur.toList.drop (base+off*z2)).take (n*z2)).length=n*z2:=by simp;omega
     have hlen:((eo.drop off).take n).length=n:=by simp;omega
     have hcs:m=cur.size:=by
      rw [hg.shape] at hsh
      simp only [Option.some.injEq,Prod.mk.injEq] at hsh
      exact hsh.2.symm
     by_cases hroom:n+els.length≤cap
     ·have hmr:(n+els.length)*z2≤cap*z2:=Nat.mul_le_mul_right z2 hroom
      rw [Nat.add_mul] at hmr hsz
      have hfit:base+off*z2+n*z2+news.length≤cur.size:=by rw [hS.cells.1];omega
      have hgc:=hg
      have hr:=F5 (P:=C.P) (ty:=o.type) w hu hi hisz ht' hgc hS.len hfirst hS.cells.2.1 hroom hfit
      obtain ⟨hb1,hb2,hb3⟩:=hp.heap.own id _ b hbl rfl
      have hsame:(cur.toList.take (base+off*z2+n*z2)++news++cur.toList.drop (base+off*z2+n*z2+news.length)).toArray.size=cur.size:=by
       simp only [List.size_toArray,List.length_append,List.length_take,List.length_drop,Array.length_toList]
       omega
      obtain ⟨fz,hfz,hg⟩:=hg
      have hl:=Ey (I:=I) hg hsame hb2
      have happ:=hco.append hS.cells
      refine fin _ ⟨some b,base+off*z2,z2⟩ [] _ (by rw [hv2];exact hr) hl (hp.heap.kept.setRow hb3 hg hsame) (by rw [DY];exact Nat.le_refl _) ⟨_,hbl⟩ ?_ ?_ ?_ ?_
      ·intro k i b' hk h1 h2
       refine setRow_other w b b' _ (fun e1=>hk ?_)
       subst e1
       exact hp.heap.apart k id i _ b' h1 hbl h2 rfl
      ·intro b' hb'
       simp only [Option.some.injEq] at hb'
       subst hb'
       refine ⟨by rw [DY];exact hb1,hb2,hb3,?_⟩
       intro k i b' hk h1 h2 e1
       subst e1
       exact hk (hp.heap.apart k id i _ b' h1 hbl h2 rfl)
      ·refine HA (AT _ _ _) (hgc.setRow hsame) ((happ.later hl (fun _ h=>h) (fun _ _ h=>h)).kill id (huo _)) ?_ ?_
       ·rw [AQ,hsame]
        simp only [List.length_append,hlen,Nat.add_mul]
        rw [hS.cells.1] at hfit
        omega
       ·intro p hp'
        rw [List.length_append,hlenO] at hp'
        rw [List.getElem?_toArray,Hl _ _ _ _ (by simpa using hfit),List.getElem?_append,hlenO]
        by_cases hpn:p < n*z2
        ·rw [if_pos (by omega),if_pos hpn,List.getElem?_take,if_pos hpn,List.getElem?_drop]
        ·rw [if_neg (by omega),if_pos (by omega),if_neg hpn]
         congr 1
         omega
      ·have hsh':(w.setRow b (cur.toList.take (base+off*z2+n*z2)++news++cur.toList.drop (base+off*z2+n*z2+news.length)).toArray).shape? b=some (e',m):=hl.shape b _ hsh
       have:=Rep.sl (I:=I) id 0 (n+els.length) cap b (base+off*z2) z2 m e' (AT bl _ _) hsh' (by rw [Nat.zero_add];omega) hroom hcm
       simpa using this
     ·refine grow (some ⟨b,base+off*z2,none⟩) cap ((cur.toList.drop (base+off*z2)).take (n*z2)) _ hbl hv2 ?_ hco (by omega)
      have:=run_firstCells_some (P:=C.P) w.drew z2 n ⟨b,base+off*z2,none⟩ n cap ((cur.toList.drop (base+off*z2)).take (n*z2)) hlenO (fun j v hj=>by
       rw [Addr.add_lit]
       show w.cell? _=_
       rw [hg.cell,←hj,List.getElem?_take,List.getElem?_drop]
       have:j < n*z2:=by rw [←hlenO];exact (List.getElem?_eq_some_iff.1 hj).1
       rw [if_pos this]
       simp)
      exact this
   ·exact hk.elim
  ·exact hk.elim
 ·exact h.elim
theorem Kr {z:Nat}:∀(vs:List V),(∀v∈vs,v.cells.length=z)→∀(i j:Nat) (x:V),vs[i]?=some x→j < z→(vs.flatMap V.cells)[i*z+j]?=x.cells[j]?
 | [],_,i,j,x,h,_=>by simp at h
 | v::vs,hz,0,j,x,h,hj=>by
   simp at h
   subst h
   have:=hz v (by simp)
   rw [List.flatMap_cons,Nat.zero_mul,Nat.zero_add,List.getElem?_append_left (by omega)]
 | v::vs,hz,i+1,j,x,h,hj=>by
   have hv:=hz v (by simp)
   rw [List.flatMap_cons,List.getElem?_append_right (by rw [hv,Nat.add_mul];omega),hv,←Kr vs (fun v hv=>hz v (by simp [hv])) i j x (by simpa using h) hj]
   congr 1
   rw [Nat.add_mul]
   omega
theorem Kt {z:Nat}:∀(vs:List V),(∀v∈vs,v.cells.length=z)→(vs.flatMap V.cells).length=vs.length*z
 | [],_=>by simp
 | v::vs,hz=>by
   rw [List.flatMap_cons,List.length_append,hz v (by simp),Kt vs (fun v hv=>hz v (by simp [hv])),List.length_cons,Nat.add_mul]
   omega
theorem Ku {α β:Type}:∀(l:List (α×β)),l=(l.map (·.1)).zip (l.map (·.2))
 | []=>rfl
 | x::l=>by simp only [List.map_cons,List.zip_cons_cons];rw [←Ku l]
theorem Kv {z:Nat}:∀(vs:List V) (k:Nat) (cs:List V),(∀v∈vs,v.one=true∧v.cells.length=z)→(k+vs.length)*z≤cs.length→
 I3 (fun i=>some (i*z,z)) cs ((List.range' k vs.length).zip vs)=some (cs.take (k*z)++vs.flatMap V.cells++cs.drop ((k+vs.length)*z))
 | [],k,cs,_,_=>by simp [I3]
 | v::vs,k,cs,hv,hl=>by
   obtain ⟨h1,h2⟩:=hv v (by simp)
   simp only [List.length_cons] at hl ⊢
   have hm:(k+1)*z≤(k+(vs.length+1))*z:=Nat.mul_le_mul_right z (by omega)
   have e1:(k+1)*z=k*z+z:=by rw [Nat.add_mul,Nat.one_mul]
   rw [List.range'_succ,List.zip_cons_cons,I3]
   simp only
   rw [if_pos ⟨h1,h2,by omega⟩]
   have hlen:(cs.take (k*z)++v.cells++cs.drop (k*z+z)).length=cs.length:=by simp;omega
   have hk:k+1+vs.length=k+(vs.length+1):=by omega
   rw [Kv vs (k+1) _ (fun v hv'=>hv v (by simp [hv'])) (by rw [hlen,hk];exact hl)]
   have t1:(cs.take (k*z)++v.cells++cs.drop (k*z+z)).take ((k+1)*z)=cs.take (k*z)++v.cells:=by
    apply List.take_left'
    simp;omega
   have hm2:(k+1)*z≤(k+1+vs.length)*z:=Nat.mul_le_mul_right z (by omega)
   have t2:(cs.take (k*z)++v.cells++cs.drop (k*z+z)).drop ((k+1+vs.length)*z)=cs.drop ((k+(vs.length+1))*z):=by
    have hla:(cs.take (k*z)++v.cells).length=(k+1)*z:=by simp;omega
    rw [List.drop_append,List.drop_eq_nil_of_le (by rw [hla];exact hm2),List.nil_append,List.drop_drop,hla]
    congr 1
    have:k+1+vs.length=k+(vs.length+1):=by omega
    rw [this] at hm2 ⊢
    omega
   rw [t1,t2,List.flatMap_cons]
   simp
def Fg (C:Ctx) (t:TypeId) (n:Nat) (ps:List (Nat×V)) (K:V→St→Prop) (σ:St):Prop:=
 match EI C.P t with
 | some (e,z)=>gV C.P e z=true∧ps.map (·.1)=List.range n∧n*z≤16777216∧(∀v∈ps.map (·.2),v.one=true∧v.cells.length=z)∧
    K (.sl (AG σ.heap) 0 n) { σ with heap:=Ag σ.heap (.row z (ps.map (·.2)))}
 | none=>False
theorem WR {C:Ctx} {o:Oper} {σ:St} {K:V→St→Prop} {t:TypeId} {n:Nat} {ps:Array (Nat×Operand)} (ho:o.op= .buildSlice t n ps) (h:Fg C t n (ps.toList.map fun p=>(p.1,σ.val p.2)) K σ):Bc C o σ K:=by
 unfold Fg at h
 split at h
 ·rename_i e z hei
  obtain ⟨hz,hord,hsmall,hvs,hk⟩:=h
  obtain ⟨hu,bb,hte⟩:=Ev hei
  obtain ⟨i,zv,hi,hiz,hzi,hzs,hz1,hz0⟩:=Lr hz
  refine Ak fun a w I bl hp=>?_
  let qs:List (Nat×V):=ps.toList.map fun p=>(p.1,σ.val p.2)
  have hqs:qs=(List.range' 0 (qs.map (·.2)).length).zip (qs.map (·.2)):=by
   have h1:qs.map (·.1)=List.range' 0 (qs.map (·.2)).length:=by
    have hl:n=(qs.map (·.2)).length:=by
     have:=congrArg List.length hord
     simpa [qs] using this.symm
    rw [←hl,←List.range_eq_range']
    exact hord
   rw [←h1]
   exact Ku qs
  have hn:n=(qs.map (·.2)).length:=by
   have:=congrArg List.length hord
   simpa [qs] using this.symm
  let cells:Array Value:=(Array.range (n*z)).map (zv.cells[· % zv.cells.size]!)
  have hcsz:cells.size=n*z:=by simp [cells]
  obtain ⟨cells',h1,h2,h3,h4⟩:=Lq (w:=w) (I:=I) (bl:=bl) (place:=fun i=>some (i*z,z)) (ps.toList.map fun p=>(p.1,a.eval p.2)) qs cells (List.replicate (n*z) .any) ((qs.map (·.2)).flatMap V.cells) (by simp [qs]) (by
   intro k p q hp' hq
   simp only [List.getElem?_map,qs] at hp' hq
   cases hx:ps.toList[k]? with
   | none=>simp [hx] at hp'
   | some x=>
     simp only [hx,Option.map_some,Option.some.injEq] at hp' hq
     subst hp';subst hq
     exact hp.val x.2) (by rw [hcsz];simp) (by
   intro u hu
   simp only [cells,Array.toList_map,List.mem_map] at hu
   obtain ⟨p,_,rfl⟩:=hu
   have hlt:p % zv.cells.size < zv.cells.size:=Nat.mod_lt _ (by omega)
   rw [getElem!_pos zv.cells _ hlt]
   exact hz1 _ (by simp)) (by
   intro j u c _ hc
   have:c= .any:=by
    obtain ⟨_,h2⟩:=List.getElem?_eq_some_iff.1 hc
    rw [←h2];simp
   subst this
   exact .pure _ _ (.any _)) (by
   rw [hqs]
   have hord':(List.range' 0 (qs.map (·.2)).length).zip (qs.map (·.2))=qs:=hqs.symm
   rw [hord']
   have:=Kv (z:=z) (qs.map (·.2)) 0 (List.replicate (n*z) .any) hvs (by simp [←hn])
   rw [←hqs] at this
   rw [this]
   simp [←hn])
  have hlen:=Kt (z:=z) (qs.map (·.2)) (fun v hv=>(hvs v hv).2)
  have hal:=hp.alloc cells' e z (qs.map (·.2)) (fun i x hx=>(hvs x (List.mem_of_getElem? hx)).2) (by rw [h2,hlen];exact Nat.le_refl _) (by
   intro i x j c hx hc
   have hxz:=(hvs x (List.mem_of_getElem? hx)).2
   have hj:j < z:=by rw [←hxz];exact (List.getElem?_eq_some_iff.1 hc).1
   have hg:=Kr (z:=z) (qs.map (·.2)) (fun v hv=>(hvs v hv).2) i j x hx hj
   rw [hc] at hg
   have hlt:i*z+j < cells'.size:=by rw [h2];exact (List.getElem?_eq_some_iff.1 hg).1
   exact ⟨cells'[i*z+j],by simp [hlt],h3 _ (by simp),h4 _ _ c (by simp [hlt]) hg⟩)
  refine ⟨.slice (some ⟨w.heap.size,0,none⟩) n n,w.alloc (.cells cells' e),_,_,?_,hk,hal.relx ?_⟩
  ·simp only [execOp,ho]
   have e1:(ps.map fun (i,x)=>(i,a.eval x)).toList=ps.toList.map fun p=>(p.1,a.eval p.2):=by simp
   have e2:¬(n*z > 2 ^ 24):=by omega
   simp only [Instr.buildSlice,Sem.run_bind,run_underlying hu,Result.andThen_ok,Al hte]
   rw [if_neg e2]
   by_cases h0:n*z=0
   ·rw [if_pos h0]
    have e4:((Array.range (n*z)).map ((#[]:Array Value)[· % (#[]:Array Value).size]!))=cells:=by simp [cells,h0]
    simp only [pure_bind]
    rw [e4,e1,h1]
    simp [newRow]
   ·rw [if_neg h0]
    simp only [Sem.run_bind,EM hzi,Result.andThen_ok,bind_assoc,pure_bind]
    rw [e1]
    rw [show ((Array.range (n*z)).map (zv.cells[· % zv.cells.size]!))=cells from rfl,h1]
    simp [newRow]
  ·have:=Rep.sl (w:=w.alloc (.cells cells' e)) (I:=I) (AG σ.heap) 0 n n w.heap.size 0 z _ e (AT bl _ _) (E6 w cells' e) (by rw [h2,hlen,←hn];simp) (Nat.le_refl _) (by
    have:n≤n*z:=Nat.le_mul_of_pos_right n hz0
    simp only [maxLen];omega)
   simpa using this
 ·exact h.elim
def TA (k:IntKind) (a b:Int):Int:=k.wrap (BitVec.ofInt k.bits a&&&BitVec.ofInt k.bits b).toNat
def YR (k:IntKind) (a b:Int):Int:=k.wrap (BitVec.ofInt k.bits a ||| BitVec.ofInt k.bits b).toNat
def TB (k:IntKind) (a b:Int):Int:=k.wrap (BitVec.ofInt k.bits a ^^^ BitVec.ofInt k.bits b).toNat
def Kw (op:BinOp) (b:Bool) (K:V→St→Prop) (σ:St):Prop:=match op with|.eql=>K (.bool b) σ|.neq=>K (.bool (!b)) σ|_=>False
def Kx (P:Program) (t:TypeId):Bool:=match P.underlying t with|some (.pointer _)=>true|_=>false
def L4 (P:Program) (t:TypeId) (op:BinOp) (x y:V) (K:V→St→Prop) (σ:St):Prop:=
 match x,y with
 | .int k a,.int k' b=>match op with
   | .shl=>0≤b∧K (.int k (k.wrap (a*2 ^ (min b.toNat k.bits)))) σ
   | .shr=>0≤b∧K (.int k (a.fdiv (2 ^ (min b.toNat k.bits)))) σ
   | .and=>k=k'∧K (.int k (TA k a b)) σ
   | .or=>k=k'∧K (.int k (YR k a b)) σ
   | .xor=>k=k'∧K (.int k (TB k a b)) σ
   | op=>LB P t op (.int k a) (.int k' b) K σ
 | .nils,.nils=>Fc P t=true∧Kw op true K σ
 | .lst l,.nils=>Fc P t=true∧∀b,(b=true→l=[])→Kw op b K σ
 | .nils,.lst l=>Fc P t=true∧∀b,(b=true→l=[])→Kw op b K σ
 | .sl _ _ n,.nils=>Fc P t=true∧∀b,(b=true→n=0)→Kw op b K σ
 | .nils,.sl _ _ n=>Fc P t=true∧∀b,(b=true→n=0)→Kw op b K σ
 | .nilp,.nilp=>Kx P t=true∧Kw op true K σ
 | .ptr _ _ _,.nilp=>Kx P t=true∧Kw op false K σ
 | .nilp,.ptr _ _ _=>Kx P t=true∧Kw op false K σ
 | .rp _,.nilp=>Kx P t=true∧Kw op false K σ
 | .nilp,.rp _=>Kx P t=true∧Kw op false K σ
 | x,y=>LB P t op x y K σ
theorem HE {P:Program} {t:TypeId} {op:BinOp} {x y:V} {K:V→St→Prop} {σ:St} (h:LB P t op x y K σ):L4 P t op x y K σ:=by
 unfold L4
 split
 ·split
  all_goals first|exact h|exact (h:_∧False).2.elim
 all_goals first|exact h|exact (h:False).elim
theorem FF {P:Program} {t:TypeId} (h:Kx P t=true):∃e,P.underlying t=some (.pointer e):=by
 unfold Kx at h
 split at h
 ·exact ⟨_,‹_›⟩
 ·simp at h
theorem F7 {P:Program} {t e:TypeId} (h:P.underlying t=some (.pointer e)) (w:World) (a b:Option Addr) (hab:a=none∨b=none):(Op.equal t (.pointer a) (.pointer b)).run P w= .ok (decide (a=b)) w:=by
 unfold Op.equal Op.maxDepth Op.equalIn
 simp only [Sem.run_bind,run_underlying h,Result.andThen_ok]
 rcases hab with rfl|rfl
 ·cases b<;>simp
 ·cases a<;>simp
theorem F8 {P:Program} {t e:TypeId} (h:P.underlying t=some (.slice e)) (w:World) (a b:Option Addr) (n c n' c':Nat) (hab:a=none∨b=none):(Op.equal t (.slice a n c) (.slice b n' c')).run P w= .ok (decide (a=b)) w:=by
 unfold Op.equal Op.maxDepth Op.equalIn
 simp only [Sem.run_bind,run_underlying h,Result.andThen_ok]
 rcases hab with rfl|rfl
 ·cases b<;>simp
 ·cases a<;>simp
theorem IL {C:Ctx} {o:Oper} {σ:St} {K:V→St→Prop} {op:BinOp} {t t':TypeId} {x y:Operand} (ho:o.op= .binOp op t x y t') (p:Bool→Prop)
 (hv:∀a w I bl,RP C σ a w I bl→∃b,p b∧((∃q r,a.eval x= .pointer q∧a.eval y= .pointer r)∨(∃q n c q' n' c',a.eval x= .slice q n c∧a.eval y= .slice q' n' c'))∧(Op.equal t (a.eval x) (a.eval y)).run C.P w= .ok b w)
 (h:∀b,p b→Kw op b K σ):Bc C o σ K:=by
 refine Ak fun a w I bl hp=>?_
 obtain ⟨b,hb,hs,hr⟩:=hv a w I bl hp
 have hk:=h b hb
 unfold Kw at hk
 have hg:(eqGuard op t x y (a.eval x) (a.eval y)).run C.P w= .ok () w:=by
  unfold eqGuard
  rcases hs with ⟨q,r,e1,e2⟩|⟨q,n,c,q',n',c',e1,e2⟩<;>rw [e1,e2]<;>cases op<;>simp
 split at hk
 ·refine ⟨.bool b,w,.bool b,σ,?_,hk,hp.relx (.pure _ _ (.bool _))⟩
  simp only [execOp,ho]
  have:(binOp .eql t (a.eval x) (a.eval y)).run C.P w= .ok (.bool b) w:=by
   rcases hs with ⟨q,r,e1,e2⟩|⟨q,n,c,q',n',c',e1,e2⟩<;>rw [e1,e2] at hr ⊢<;>simp [binOp,hr]
  simp [hg,this]
 ·refine ⟨.bool (!b),w,.bool (!b),σ,?_,hk,hp.relx (.pure _ _ (.bool _))⟩
  simp only [execOp,ho]
  have:(binOp .neq t (a.eval x) (a.eval y)).run C.P w= .ok (.bool (!b)) w:=by
   rcases hs with ⟨q,r,e1,e2⟩|⟨q,n,c,q',n',c',e1,e2⟩<;>rw [e1,e2] at hr ⊢<;>simp [binOp,hr]
  simp [hg,this]
 ·exact hk.elim
theorem Pa {w:World} {I:Nat→Prop} {bl:Nat→Option BI} {v:Value} {l:List V} (h:Rep w I bl v (.lst l)):∃a n c,v= .slice a n c∧(a=none→l=[]):=by
 cases h with
 | pure _ _ h=>cases h with
   | lnil a c=>exact ⟨_,_,_,rfl,fun _=>rfl⟩
   | lst b off cap z l u=>exact ⟨_,_,_,rfl,fun h=>by cases h⟩
theorem TC {w:World} {I:Nat→Prop} {bl:Nat→Option BI} {v:Value} {id off n:Nat} (h:Rep w I bl v (.sl id off n)):∃a m c,v= .slice a m c∧(a=none→n=0):=by
 rcases h.inv_sl with ⟨_,_,_,_,rfl,rfl⟩|⟨_,_,_,rfl,rfl⟩|⟨cap,b,base,z',m,e',hbl,hs,hsz,hlc,hcm,rfl⟩
 ·exact ⟨_,_,_,rfl,fun _=>rfl⟩
 ·exact ⟨_,_,_,rfl,fun _=>rfl⟩
 ·exact ⟨_,_,_,rfl,fun h=>by cases h⟩
theorem bX {C:Ctx} {o:Oper} {σ:St} {K:V→St→Prop} {op:BinOp} {t t':TypeId} {x y:Operand} (ho:o.op= .binOp op t x y t') (h:L4 C.P t op (σ.val x) (σ.val y) K σ):Bc C o σ K:=by
 unfold L4 at h
 split at h
 ·rename_i k a k' b hx hy
  have hX:∀ac w I bl,RP C σ ac w I bl→ac.eval x= .int k a:=fun ac w I bl hp=>by have:=hp.val x;rw [hx] at this;exact this.inv_int
  have hY:∀ac w I bl,RP C σ ac w I bl→ac.eval y= .int k' b:=fun ac w I bl hp=>by have:=hp.val y;rw [hy] at this;exact this.inv_int
  have key:∀n:Int,K (.int k n) σ→(op≠.eql∧op≠.neq)→(∀w,(binOp op t (.int k a) (.int k' b)).run C.P w= .ok (.int k n) w)→Bc C o σ K:=by
   intro n hk hop hrun
   refine AS _ hk fun ac w I bl hp=>⟨.int k n,?_,.pure _ _ (.int _ _)⟩
   simp only [execOp,ho,hX ac w I bl hp,hY ac w I bl hp]
   have:(eqGuard op t x y (.int k a) (.int k' b)).run C.P w= .ok () w:=by
    unfold eqGuard
    cases op<;>simp
   simp [this,hrun]
  split at h
  ·exact key _ h.2 (by simp) (fun w=>by have:=h.1;simp [binOp,Op.shift];omega)
  ·exact key _ h.2 (by simp) (fun w=>by have:=h.1;simp [binOp,Op.shift];omega)
  ·obtain ⟨rfl,h⟩:=h
   exact key _ h (by simp) (fun w=>by simp [binOp,Op.intBits,TA])
  ·obtain ⟨rfl,h⟩:=h
   exact key _ h (by simp) (fun w=>by simp [binOp,Op.intBits,YR])
  ·obtain ⟨rfl,h⟩:=h
   exact key _ h (by simp) (fun w=>by simp [binOp,Op.intBits,TB])
  ·refine X7 ho ?_
   rw [hx,hy]
   exact h
 ·rename_i hx hy
  obtain ⟨e,hu⟩:=Cz h.1
  refine IL ho (fun b=>b=true) (fun a w I bl hp=>?_) (fun b hb=>hb▸h.2)
  have h1:=hp.val x;rw [hx] at h1
  have h2:=hp.val y;rw [hy] at h2
  rw [h1.inv_nils,h2.inv_nils]
  exact ⟨true,rfl,.inr ⟨_,_,_,_,_,_,rfl,rfl⟩,by rw [F8 hu w _ _ _ _ _ _ (.inl rfl)];rfl⟩
 ·rename_i l hx hy
  obtain ⟨e,hu⟩:=Cz h.1
  refine IL ho (fun b=>b=true→l=[]) (fun a w I bl hp=>?_) h.2
  have h1:=hp.val x;rw [hx] at h1
  have h2:=hp.val y;rw [hy] at h2
  obtain ⟨q,n,c,e1,hq⟩:=Pa h1
  rw [e1,h2.inv_nils]
  exact ⟨decide (q=none),fun hb=>hq (by simpa using hb),.inr ⟨_,_,_,_,_,_,rfl,rfl⟩,F8 hu w _ _ _ _ _ _ (.inr rfl)⟩
 ·rename_i l hx hy
  obtain ⟨e,hu⟩:=Cz h.1
  refine IL ho (fun b=>b=true→l=[]) (fun a w I bl hp=>?_) h.2
  have h1:=hp.val x;rw [hx] at h1
  have h2:=hp.val y;rw [hy] at h2
  obtain ⟨q,n,c,e1,hq⟩:=Pa h2
  rw [e1,h1.inv_nils]
  exact ⟨decide (none=q),fun hb=>hq (by simpa using (of_decide_eq_true hb).symm),.inr ⟨_,_,_,_,_,_,rfl,rfl⟩,F8 hu w _ _ _ _ _ _ (.inl rfl)⟩
 ·rename_i id off m hx hy
  obtain ⟨e,hu⟩:=Cz h.1
  refine IL ho (fun b=>b=true→m=0) (fun a w I bl hp=>?_) h.2
  have h1:=hp.val x;rw [hx] at h1
  have h2:=hp.val y;rw [hy] at h2
  obtain ⟨q,n,c,e1,hq⟩:=TC h1
  rw [e1,h2.inv_nils]
  exact ⟨decide (q=none),fun hb=>hq (by simpa using hb),.inr ⟨_,_,_,_,_,_,rfl,rfl⟩,F8 hu w _ _ _ _ _ _ (.inr rfl)⟩
 ·rename_i id off m hx hy
  obtain ⟨e,hu⟩:=Cz h.1
  refine IL ho (fun b=>b=true→m=0) (fun a w I bl hp=>?_) h.2
  have h1:=hp.val x;rw [hx] at h1
  have h2:=hp.val y;rw [hy] at h2
  obtain ⟨q,n,c,e1,hq⟩:=TC h2
  rw [e1,h1.inv_nils]
  exact ⟨decide (none=q),fun hb=>hq (by simpa using (of_decide_eq_true hb).symm),.inr ⟨_,_,_,_,_,_,rfl,rfl⟩,F8 hu w _ _ _ _ _ _ (.inl rfl)⟩
 ·rename_i hx hy
  obtain ⟨e,hu⟩:=FF h.1
  refine IL ho (fun b=>b=true) (fun a w I bl hp=>?_) (fun b hb=>hb▸h.2)
  have h1:=hp.val x;rw [hx] at h1
  have h2:=hp.val y;rw [hy] at h2
  rw [h1.inv_nilp,h2.inv_nilp]
  exact ⟨true,rfl,.inl ⟨_,_,rfl,rfl⟩,by rw [F7 hu w _ _ (.inl rfl)];rfl⟩
 ·rename_i i1 i2 i3 hx hy
  obtain ⟨e,hu⟩:=FF h.1
  refine IL ho (fun b=>b=false) (fun a w I bl hp=>?_) (fun b hb=>hb▸h.2)
  have h1:=hp.val x;rw [hx] at h1
  have h2:=hp.val y;rw [hy] at h2
  obtain ⟨_,_,_,_,_,_,_,e1⟩:=h1.inv_ptr
  rw [e1,h2.inv_nilp]
  exact ⟨false,rfl,.inl ⟨_,_,rfl,rfl⟩,by rw [F7 hu w _ _ (.inr rfl)];rfl⟩
 ·rename_i i1 i2 i3 hx hy
  obtain ⟨e,hu⟩:=FF h.1
  refine IL ho (fun b=>b=false) (fun a w I bl hp=>?_) (fun b hb=>hb▸h.2)
  have h1:=hp.val x;rw [hx] at h1
  have h2:=hp.val y;rw [hy] at h2
  obtain ⟨_,_,_,_,_,_,_,e1⟩:=h2.inv_ptr
  rw [e1,h1.inv_nilp]
  exact ⟨false,rfl,.inl ⟨_,_,rfl,rfl⟩,by rw [F7 hu w _ _ (.inl rfl)];rfl⟩
 ·rename_i l hx hy
  obtain ⟨e,hu⟩:=FF h.1
  refine IL ho (fun b=>b=false) (fun a w I bl hp=>?_) (fun b hb=>hb▸h.2)
  have h1:=hp.val x;rw [hx] at h1
  have h2:=hp.val y;rw [hy] at h2
  obtain ⟨_,_,_,_,e1,_⟩:=h1.inv_rp
  rw [e1,h2.inv_nilp]
  exact ⟨false,rfl,.inl ⟨_,_,rfl,rfl⟩,by rw [F7 hu w _ _ (.inr rfl)];rfl⟩
 ·rename_i l hx hy
  obtain ⟨e,hu⟩:=FF h.1
  refine IL ho (fun b=>b=false) (fun a w I bl hp=>?_) (fun b hb=>hb▸h.2)
  have h1:=hp.val x;rw [hx] at h1
  have h2:=hp.val y;rw [hy] at h2
  obtain ⟨_,_,_,_,e1,_⟩:=h2.inv_rp
  rw [e1,h1.inv_nilp]
  exact ⟨false,rfl,.inl ⟨_,_,rfl,rfl⟩,by rw [F7 hu w _ _ (.inl rfl)];rfl⟩
 ·exact X7 ho h
end Go.Proofs.YtkaiffheakalmaaGreatDoor
