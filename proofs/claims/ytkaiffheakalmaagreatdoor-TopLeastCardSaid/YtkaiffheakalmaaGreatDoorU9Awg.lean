/- Copied, stripped. No conditions. -/
import Derived.Test.YtkaiffheakalmaaGreatDoorU9Awf
set_option linter.unusedSimpArgs false
set_option linter.unusedVariables false
set_option maxRecDepth 100000
namespace Go.Proofs.YtkaiffheakalmaaGreatDoor
open Go.RowKit
def f4 (P:Program) (e:TypeId) (z:Nat):Bool:=
  match ZI P e with
  | some zv=>zv.cells.size==z&&zv.cells.toList.all (·.oneCell')&&decide (0 < z)
  | none=>false
def Mh (P:Program) (t:TypeId):Nat:=((P.info? t).map (·.bytes)).getD 0
def D8 (P:Program) (t:TypeId):Bool:=match P.underlying t with|some (.slice _)=>true|some .string=>true|_=>false
theorem Ki {P:Program} {e:TypeId} {z:Nat} (h:f4 P e z=true):∃i zv,P.info? e=some i∧i.zero=some zv∧ZI P e=some zv∧zv.cells.size=z∧(∀u∈zv.cells.toList,u.oneCell'=true)∧0 < z:=by
  unfold f4 at h
  split at h
  . rename_i zv hz
    simp only [Bool.and_eq_true,beq_iff_eq,decide_eq_true_eq] at h
    have hz':=hz
    unfold ZI at hz
    cases hi:P.info? e with
    | none=>simp [hi] at hz
    | some i=>
      simp [hi] at hz
      exact ⟨i,zv,rfl,hz,hz',h.1.1,fun u hu=>List.all_eq_true.1 h.1.2 u hu,h.2⟩
  . cases h
section
variable {P:Program} {t t' ty e:TypeId} {i:TypeInfo} {zv:Value} {z by':Nat}
theorem FZ (w:World) (ht:P.underlying t=some (.slice e)) (hi:P.info? e=some i) (hiz:i.size=z) (ht':D8 P t'=true) {g o sLen sCap:Nat} {cur:Array Value} {e':TypeId} (hgc:CellsAt z w g cur e')
    {x:Value} {m:Nat} {news:List Value} (hlen:∀w',(Builtin.lenOf x).run P w'= .ok m w') (hf:(Builtin.firstCells z m x).run P w= .ok news.toArray w) (h1:∀u∈news,u.oneCell'=true)
    (hroom:sLen+m≤sCap) (hfit:o+sLen*z+news.length≤cur.size):
    (Builtin.append_ #[t,t'] ty #[.slice (some ⟨g,o,none⟩) sLen sCap,x]).run P w=
      .ok (.slice (some ⟨g,o,none⟩) (sLen+m) sCap) (w.setRow g (cur.toList.take (o+sLen*z)++news++cur.toList.drop (o+sLen*z+news.length)).toArray):=by
  subst hiz
  obtain ⟨fz,hfz,hg⟩:=hgc
  have hst:=B6 (P:=P) g (o+sLen*i.size) e' fz news 0 cur w hg hfz (by simpa using hfit) h1
  simp only [Nat.add_zero] at hst
  unfold D8 at ht'
  split at ht'
  . rename_i e2 hu
    simp [Builtin.append_,run_underlying ht,run_underlying hu,sizeOf,typeInfo,hi,hlen,hroom,hf,Addr.add_lit,hst]
  . rename_i hu
    simp [Builtin.append_,run_underlying ht,run_underlying hu,sizeOf,typeInfo,hi,hlen,hroom,hf,Addr.add_lit,hst]
  . cases ht'
theorem C3 (w:World) (ht:P.underlying t=some (.slice e)) (hi:P.info? e=some i) (ht':D8 P t'=true) {x:Value} (hlen:∀w',(Builtin.lenOf x).run P w'= .ok 0 w') (hf:(Builtin.firstCells i.size 0 x).run P w= .ok #[] w):
    (Builtin.append_ #[t,t'] ty #[.slice none 0 0,x]).run P w= .ok (.slice none 0 0) w:=by
  unfold D8 at ht'
  split at ht'
  . rename_i e2 hu
    simp [Builtin.append_,run_underlying ht,run_underlying hu,sizeOf,typeInfo,hi,hlen,hf]
  . rename_i hu
    simp [Builtin.append_,run_underlying ht,run_underlying hu,sizeOf,typeInfo,hi,hlen,hf]
  . cases ht'
theorem HN (w:World) (ht:P.underlying t=some (.slice e)) (hi:P.info? e=some i) (ht':D8 P t'=true) {a:Addr} {x:Value} (hlen:∀w',(Builtin.lenOf x).run P w'= .ok 0 w') (hf:(Builtin.firstCells i.size 0 x).run P w= .ok #[] w):
    (Builtin.append_ #[t,t'] ty #[.slice (some a) 0 0,x]).run P w= .ok (.slice (some a) 0 0) w:=by
  unfold D8 at ht'
  split at ht'
  . rename_i e2 hu
    simp [Builtin.append_,run_underlying ht,run_underlying hu,sizeOf,typeInfo,hi,hlen,hf,storeCells]
  . rename_i hu
    simp [Builtin.append_,run_underlying ht,run_underlying hu,sizeOf,typeInfo,hi,hlen,hf,storeCells]
  . cases ht'
theorem DZ (w:World) (ht:P.underlying t=some (.slice e)) (hi:P.info? e=some i) (hiz:i.size=z) (hz:i.zero=some zv) (ht':D8 P t'=true) {s:Option Addr} {sLen sCap:Nat} {olds:List Value} (ho:(Builtin.firstCells z sLen (.slice s sLen sCap)).run P w.drew= .ok olds.toArray w.drew)
    {x:Value} {m:Nat} {news:List Value} (hlen:∀w',(Builtin.lenOf x).run P w'= .ok m w') (hf:(Builtin.firstCells z m x).run P w.drew= .ok news.toArray w.drew)
    (hg:sCap < sLen+m) (h63:sLen+m≤maxLen) (hb:(sLen+m)*i.bytes≤140737488355328):
    (Builtin.append_ #[t,t'] ty #[.slice s sLen sCap,x]).run P w=
      .ok (.slice (some ⟨w.heap.size,0,none⟩) (sLen+m) (grownCap w (sLen+m) sCap e)) (w.drew.alloc (.cells (olds.toArray++news.toArray++Builtin.zeroCells zv.cells (grownCap w (sLen+m) sCap e - (sLen+m))) e)):=by
  subst hiz
  have hn:¬(sLen+m≤sCap):=by omega
  have h63':¬(9223372036854775807 < ((sLen:Int)+(m:Int))):=by simp only [maxLen] at h63;omega
  have hfit:¬(281474976710656 < Builtin.nextslicecap (sLen+m) sCap*i.bytes):=by
    have h:=Go.Room.nextslicecap_le' (need:=sLen+m) (old:=sCap) hg
    have h2:=Nat.mul_le_mul_right i.bytes h
    rw [Nat.mul_assoc] at h2
    omega
  unfold D8 at ht'
  split at ht'
  . rename_i e2 hu
    simp [Builtin.append_,run_underlying ht,run_underlying hu,sizeOf,typeInfo,zeroValue,hi,hz,hlen,hn,h63',hfit,Question.forced,newRow,grownCap,ho,hf]
    try (congr 2;apply Array.ext';simp [List.append_assoc])
  . rename_i hu
    simp [Builtin.append_,run_underlying ht,run_underlying hu,sizeOf,typeInfo,zeroValue,hi,hz,hlen,hn,h63',hfit,Question.forced,newRow,grownCap,ho,hf]
    try (congr 2;apply Array.ext';simp [List.append_assoc])
  . cases ht'
end
def GU (σ:St) (z:Nat) (x:V) (k:List V→Prop):Prop:=
  match x with
  | .lst l=>(∀y∈l,y.cells.length=z)∧k l
  | .nils=>k []
  | .sl id off n=>match σ.row id with
    | some (z',els)=>z'=z∧off+n≤els.length∧k ((els.drop off).take n)
    | none=>False
  | .str b=>z=1∧k (b.map fun c=>.int .u8 c.toNat)
  | _=>False
theorem V1 {C:Ctx} {σ:St} {z:Nat} {x:Operand} {k:List V→Prop} (h:GU σ z (σ.val x) k):∃els,k els∧∀a w I bl,RP C σ a w I bl→∃news,Src C.P w I bl z (a.eval x) els news:=by
  unfold GU at h
  split at h
  . rename_i l hx
    exact ⟨l,h.2,fun a w I bl hp=>S4 (by have:=hp.val x;rw [hx] at this;exact this) h.1⟩
  . rename_i hx
    refine ⟨[],h,fun a w I bl hp=>?_⟩
    have:=hp.val x
    rw [hx] at this
    rw [this.inv_nils]
    exact ⟨_,FY none 0⟩
  . rename_i id off n hx
    split at h
    . rename_i z' els hrow
      obtain ⟨rfl,hn,hk⟩:=h
      exact ⟨_,hk,fun a w I bl hp=>N4 hp (by have:=hp.val x;rw [hx] at this;exact this) hrow hn⟩
    . exact h.elim
  . rename_i b hx
    obtain ⟨rfl,hk⟩:=h
    refine ⟨_,hk,fun a w I bl hp=>?_⟩
    have:=hp.val x
    rw [hx] at this
    obtain ⟨s,hs,rfl,_⟩:=this.inv_str
    rw [hs]
    exact ⟨_,S5 s⟩
  . exact h.elim
def Kj (C:Ctx) (e:TypeId) (z:Nat) (s:V) (K:V→St→Prop) (σ:St) (news:List V):Prop:=
  match s with
  | .nils=>news.length≤maxLen∧news.length*Mh C.P e≤140737488355328∧K (.sl (AG σ.heap) 0 news.length) { σ with heap:=Aj σ.heap (.row z news)}
  | .sl id off n=>match σ.row id with
    | some (z',els)=>z'=z∧off+n≤els.length∧n+news.length≤maxLen∧(n+news.length)*Mh C.P e≤140737488355328∧
        K (.sl id 0 (n+news.length)) { env:=AK id σ.env,heap:=(Ba id σ.heap).set id (some (.row z (AK id ((els.drop off).take n++news))))}
    | none=>False
  | _=>False
def PE (C:Ctx) (t t':TypeId) (s x:V) (K:V→St→Prop) (σ:St):Prop:=
  match EI C.P t with
  | some (e,z)=>f4 C.P e z=true∧D8 C.P t'=true∧GU σ z x (Kj C e z s K σ)
  | none=>False
theorem D9 {C:Ctx} {a:Act} {o:Oper} {s x:Operand} {t t':TypeId} (ho:o.op= .call { callee:=.builtin .append,args:=#[s,x],argTypes:=#[t,t']}) {w w':World} {v:Value} (h:(Builtin.append_ #[t,t'] o.type #[a.eval s,a.eval x]).run C.P w= .ok v w'):
    (execOp a.eval o).run C.P w= .ok (.value v) w':=by
  simp [execOp,ho,resolve,invoke,builtin,h]
theorem UE {C:Ctx} {σ:St} {a:Act} {w:World} {I:Nat→Prop} {bl:Nat→Option BI} (hp:RP C σ a w I bl) (o:Obj):Later I w (w.drew.alloc o):=by
  have h:=Dx I w.drew o (fun b hb=>(hp.heap.imm b hb).1)
  exact ⟨h.block,h.shape⟩
theorem Kk {P:Program} {w:World} {I:Nat→Prop} {bl:Nat→Option BI} {z:Nat} {x:Value} {els:List V} {news:List Value} (h:Src P w I bl z x els news) (h0:els.length=0):news=[]:=
  List.eq_nil_of_length_eq_zero (by rw [h.cells.1,h0,Nat.zero_mul])
theorem cw {C:Ctx} {o:Oper} {σ:St} {K:V→St→Prop} {t t':TypeId} {s x:Operand} (ho:o.op= .call { callee:=.builtin .append,args:=#[s,x],argTypes:=#[t,t']}) (h:PE C t t' (σ.val s) (σ.val x) K σ):BR C o σ K:=by
  unfold PE at h
  split at h
  . rename_i e z hei
    obtain ⟨hz,ht',h⟩:=h
    obtain ⟨hu,bb,hte⟩:=EH hei
    obtain ⟨i,zv,hi,hiz,_,hzs,hz1,hz0⟩:=Ki hz
    have hisz:i.size=z:=by
      unfold TI at hte
      rw [hi] at hte
      split at hte
      . rename_i d i' _ hi'
        simp only [Option.some.injEq] at hi'
        subst hi'
        simp only [Option.some.injEq,Prod.mk.injEq] at hte
        exact hte.2
      . cases hte
    have hby:Mh C.P e=i.bytes:=by simp [Mh,hi]
    obtain ⟨els,hk,hsrc⟩:=V1 (C:=C) h
    refine Am fun a w I bl hp=>?_
    obtain ⟨news,hS⟩:=hsrc a w I bl hp
    have hfirst:=hS.first w rfl
    have hfirstd:=hS.first w.drew rfl
    unfold Kj at hk
    have zlen:∀n,(Builtin.zeroCells zv.cells n).size=n*z:=fun n=>by rw [size_zeroCells,hzs]
    split at hk
    . -- nothing there yet
      rename_i hs
      obtain ⟨hmax,hbytes,hk⟩:=hk
      have hv:=hp.val s
      rw [hs] at hv
      have hv:=hv.inv_nils
      by_cases h0:els.length=0
      . have hn:news=[]:=Kk hS h0
        have he:els=[]:=List.eq_nil_of_length_eq_zero h0
        subst hn;subst he
        refine ⟨.slice none 0 0,w,_,_,D9 ho ?_,hk,(hp.adopt z).relx ?_⟩
        . rw [hv]
          exact C3 w hu hi ht' hS.len (by rw [hisz];exact hfirst)
        . exact .nsl _ _ _ (AX _ _ _)
      . have hr:=DZ (P:=C.P) (ty:=o.type) (s:=none) (sLen:=0) (sCap:=0) (olds:=[]) w hu hi hisz hiz ht' (by simp [Builtin.firstCells]) hS.len hfirstd (by omega) (by omega) (by rw [Nat.zero_add,←hby];exact hbytes)
        simp only [Nat.zero_add] at hr
        have hge:=grownCap_ge w els.length 0 e
        have hcm:=grownCap_le_maxLen w els.length 0 e hmax
        refine ⟨_,_,_,_,D9 ho (by rw [hv];exact hr),hk,?_⟩
        have hal:=hp.drew.alloc (#[]++news.toArray++Builtin.zeroCells zv.cells (grownCap w els.length 0 e - els.length)) e z els hS.cells.2.2.1 (by simp [hS.cells.1]) (by
          intro i x j c hx hc
          have hi:i < els.length:=(List.getElem?_eq_some_iff.1 hx).1
          have hj:j < z:=by rw [←hS.cells.2.2.1 i x hx];exact (List.getElem?_eq_some_iff.1 hc).1
          have hm:(i+1)*z≤els.length*z:=Nat.mul_le_mul_right z hi
          rw [Nat.add_mul] at hm
          have hlt:i*z+j < news.length:=by rw [hS.cells.1];omega
          refine ⟨news[i*z+j],?_,hS.cells.2.1 _ (List.getElem_mem hlt),(hS.cells.2.2.2 i x j c _ hx hc (List.getElem?_eq_getElem hlt)).later ⟨fun _ _=>rfl,fun _ _ h=>h⟩ (fun _ h=>h) (fun _ _ h=>h)⟩
          rw [Array.getElem?_append_left (by simpa using hlt)]
          simp [List.getElem?_eq_getElem hlt])
        refine hal.relx ?_
        have:=Rep.sl (w:=w.drew.alloc (.cells (#[]++news.toArray++Builtin.zeroCells zv.cells (grownCap w els.length 0 e - els.length)) e)) (I:=I) (AG σ.heap) 0 els.length (grownCap w els.length 0 e) w.drew.heap.size 0 z _ e (AX bl _ _) (ET w.drew _ e)
          (by simp only [Array.size_append,List.size_toArray,zlen,hS.cells.1,Nat.sub_mul]
              have:=Nat.mul_le_mul_right z hge
              simp
              omega) hge hcm
        simpa using this
    . rename_i id off n hs
      split at hk
      . rename_i z' eo hrow
        obtain ⟨rfl,hoff,hmax,hbytes,hk⟩:=hk
        have hv:=hp.val s
        rw [hs] at hv
        have fin:∀(w':World) (bi:BI) (us:List Value) (v:Value),(Builtin.append_ #[t,t'] o.type #[a.eval s,a.eval x]).run C.P w= .ok v w'→Later I w w'→Kept C.E C.W0 w'→w.heap.size≤w'.heap.size→
            (∃i0,bl id=some i0)→(∀k i b,k≠id→bl k=some i→i.blk=some b→w'.heap[b]?=w.heap[b]?)→(∀b,bi.blk=some b→b < w'.heap.size∧¬I b∧(C.E b∨C.W0.heap.size≤b)∧∀k i b',k≠id→bl k=some i→i.blk=some b'→b'≠b)→
            ObRep w' I (Fo bl id bi) id (.row z' (AK id ((eo.drop off).take n++els)))→Rep w' I (Fo bl id bi) v (.sl id 0 (n+els.length))→
            ∃v w' r σ',(execOp a.eval o).run C.P w= .ok (.value v) w'∧K r σ'∧HZ C σ' [r] a w' [v]:=by
          intro w' bi us v h1 h2 h3 h4 ⟨i0,h5⟩ h6 h7 h8 h9
          exact ⟨v,w',_,_,D9 ho h1,hk,(hp.replace h5 h2 h3 h4 h6 bi h7 h8).relx h9⟩
        have huo:∀bi k,k≠id→Fo bl id bi k=bl k:=fun bi k hk=>Ac hk
        -- growing:whatever lay there before
        have grow:∀(base:Option Addr) (cap:Nat) (olds:List Value) (i0:BI),bl id=some i0→a.eval s= .slice base n cap→(Builtin.firstCells z' n (.slice base n cap)).run C.P w.drew= .ok olds.toArray w.drew→CellsOf w I bl z' ((eo.drop off).take n) olds→cap < n+els.length→
            ∃v w' r σ',(execOp a.eval o).run C.P w= .ok (.value v) w'∧K r σ'∧HZ C σ' [r] a w' [v]:=by
          intro base cap olds i0 hbl hv holds hco hlt
          have hr:=DZ (P:=C.P) (ty:=o.type) w hu hi hisz hiz ht' holds hS.len hfirstd hlt hmax (by rw [←hby];exact hbytes)
          have hge:=grownCap_ge w (n+els.length) cap e
          have hcm:=grownCap_le_maxLen w (n+els.length) cap e hmax
          have hl:=UE hp (.cells (olds.toArray++news.toArray++Builtin.zeroCells zv.cells (grownCap w (n+els.length) cap e - (n+els.length))) e)
          have hlen:((eo.drop off).take n).length=n:=by simp;omega
          have happ:=hco.append hS.cells
          have hszc:(olds++news).length=(n+els.length)*z':=by rw [happ.1];simp only [List.length_append,hlen]
          refine fin _ ⟨some w.heap.size,0,z'⟩ [] _ (by rw [hv];exact hr) hl (hp.heap.kept.drew.alloc _) (by simp) ⟨i0,hbl⟩ ?_ ?_ ?_ ?_
          . intro k i b hk h1 h2
            exact A8 w.drew _ b (hp.heap.own k i b h1 h2).1
          . intro b hb
            simp only [Option.some.injEq] at hb
            subst hb
            refine ⟨by simp,fun h=>?_,.inr hp.heap.kept.size,?_⟩
            . have:=(hp.heap.imm _ h).1;omega
            . intro k i b' hk h1 h2 e1
              have:=(hp.heap.own k i b' h1 h2).1
              omega
          . refine GS (AX _ _ _) (.of (heap_alloc_new w.drew _)) ((happ.later hl (fun _ h=>h) (fun _ _ h=>h)).kill id (huo _)) ?_ ?_
            . rw [AT]
              have h1:=happ.1
              simp only [Array.size_append,List.size_toArray]
              rw [List.length_append] at h1
              omega
            . intro p hp'
              rw [Nat.zero_add,Array.getElem?_append_left (by simpa using hp')]
              simp
          . have:=Rep.sl (w:=w.drew.alloc (.cells (olds.toArray++news.toArray++Builtin.zeroCells zv.cells (grownCap w (n+els.length) cap e - (n+els.length))) e)) (I:=I) id 0 (n+els.length) (grownCap w (n+els.length) cap e) w.drew.heap.size 0 z' _ e (AX bl _ _) (ET w.drew _ e)
              (by simp only [Array.size_append,List.size_toArray,zlen,←List.length_append,hszc,Nat.sub_mul]
                  have:=Nat.mul_le_mul_right z' hge
                  simp
                  omega) hge hcm
            simpa using this
        rcases hv.inv_sl with ⟨base,z2,hbl,rfl,rfl,hv2⟩|⟨p,i0,hbl,rfl,hv2⟩|⟨cap,b,base,z2,m,e',hbl,hsh,hsz,hlc,hcm,hv2⟩
        . by_cases h0:els.length=0
          . have hn:news=[]:=Kk hS h0
            have he:els=[]:=List.eq_nil_of_length_eq_zero h0
            subst hn;subst he
            refine fin w ⟨none,base,z'⟩ [] (.slice none 0 0) (by rw [hv2];exact C3 w hu hi ht' hS.len (by rw [hisz];exact hfirst)) (Later.refl _ _) hp.heap.kept (Nat.le_refl _) ⟨_,hbl⟩ (fun _ _ _ _ _ _=>rfl) (fun b hb=>by cases hb) ?_ ?_
            . exact ⟨_,AX _ _ _,rfl,by simp [AK],by simp [AK]⟩
            . exact .nsl _ _ _ (AX _ _ _)
          . exact grow none 0 [] _ hbl hv2 (by simp [Builtin.firstCells]) (by simp only [List.take_zero];exact ⟨by simp,by simp,by simp,by simp⟩) (by omega)
        . by_cases h0:els.length=0
          . have hn:news=[]:=Kk hS h0
            have he:els=[]:=List.eq_nil_of_length_eq_zero h0
            subst hn;subst he
            refine fin w ⟨none,0,z'⟩ [] (.slice (some p) 0 0) (by rw [hv2];exact HN w hu hi ht' hS.len (by rw [hisz];exact hfirst)) (Later.refl _ _) hp.heap.kept (Nat.le_refl _) ⟨_,hbl⟩ (fun _ _ _ _ _ _=>rfl) (fun b hb=>by cases hb) ?_ ?_
            . exact ⟨_,AX _ _ _,rfl,by simp [AK],by simp [AK]⟩
            . exact .esl _ _ _ _ (AX _ _ _)
          . exact grow (some p) 0 [] _ hbl hv2 (by simp [Builtin.firstCells,loadCells,loadCellsFrom]) (by simp only [List.take_zero];exact ⟨by simp,by simp,by simp,by simp⟩) (by omega)
        . obtain ⟨cur,ec,rfl,hg,hszc,hco⟩:=H8 hp hrow hbl hoff
          have hmo:(off+n)*z2≤eo.length*z2:=Nat.mul_le_mul_right z2 hoff
          rw [Nat.add_mul] at hmo
          have hlenO:((cur.toList.drop (base+off*z2)).take (n*z2)).length=n*z2:=by simp;omega
          have hlen:((eo.drop off).take n).length=n:=by simp;omega
          have hcs:m=cur.size:=by
            rw [hg.shape] at hsh
            simp only [Option.some.injEq,Prod.mk.injEq] at hsh
            exact hsh.2.symm
          by_cases hroom:n+els.length≤cap
          . have hmr:(n+els.length)*z2≤cap*z2:=Nat.mul_le_mul_right z2 hroom
            rw [Nat.add_mul] at hmr hsz
            have hfit:base+off*z2+n*z2+news.length≤cur.size:=by rw [hS.cells.1];omega
            have hgc:=hg
            have hr:=FZ (P:=C.P) (ty:=o.type) w hu hi hisz ht' hgc hS.len hfirst hS.cells.2.1 hroom hfit
            obtain ⟨hb1,hb2,hb3⟩:=hp.heap.own id _ b hbl rfl
            have hsame:(cur.toList.take (base+off*z2+n*z2)++news++cur.toList.drop (base+off*z2+n*z2+news.length)).toArray.size=cur.size:=by
              simp only [List.size_toArray,List.length_append,List.length_take,List.length_drop,Array.length_toList]
              omega
            obtain ⟨fz,hfz,hg⟩:=hg
            have hl:=EK (I:=I) hg hsame hb2
            have happ:=hco.append hS.cells
            refine fin _ ⟨some b,base+off*z2,z2⟩ [] _ (by rw [hv2];exact hr) hl (hp.heap.kept.setRow hb3 hg hsame) (by rw [DA];exact Nat.le_refl _) ⟨_,hbl⟩ ?_ ?_ ?_ ?_
            . intro k i b' hk h1 h2
              refine setRow_other w b b' _ (fun e1=>hk ?_)
              subst e1
              exact hp.heap.apart k id i _ b' h1 hbl h2 rfl
            . intro b' hb'
              simp only [Option.some.injEq] at hb'
              subst hb'
              refine ⟨by rw [DA];exact hb1,hb2,hb3,?_⟩
              intro k i b' hk h1 h2 e1
              subst e1
              exact hk (hp.heap.apart k id i _ b' h1 hbl h2 rfl)
            . refine GS (AX _ _ _) (hgc.setRow hsame) ((happ.later hl (fun _ h=>h) (fun _ _ h=>h)).kill id (huo _)) ?_ ?_
              . rw [AT,hsame]
                simp only [List.length_append,hlen,Nat.add_mul]
                rw [hS.cells.1] at hfit
                omega
              . intro p hp'
                rw [List.length_append,hlenO] at hp'
                rw [List.getElem?_toArray,G0 _ _ _ _ (by simpa using hfit),List.getElem?_append,hlenO]
                by_cases hpn:p < n*z2
                . rw [if_pos (by omega),if_pos hpn,List.getElem?_take,if_pos hpn,List.getElem?_drop]
                . rw [if_neg (by omega),if_pos (by omega),if_neg hpn]
                  congr 1
                  omega
            . have hsh':(w.setRow b (cur.toList.take (base+off*z2+n*z2)++news++cur.toList.drop (base+off*z2+n*z2+news.length)).toArray).shape? b=some (e',m):=hl.shape b _ hsh
              have:=Rep.sl (I:=I) id 0 (n+els.length) cap b (base+off*z2) z2 m e' (AX bl _ _) hsh' (by rw [Nat.zero_add];omega) hroom hcm
              simpa using this
          . refine grow (some ⟨b,base+off*z2,none⟩) cap ((cur.toList.drop (base+off*z2)).take (n*z2)) _ hbl hv2 ?_ hco (by omega)
            have:=run_firstCells_some (P:=C.P) w.drew z2 n ⟨b,base+off*z2,none⟩ n cap ((cur.toList.drop (base+off*z2)).take (n*z2)) hlenO (fun j v hj=>by
              rw [Addr.add_lit]
              show w.cell? _=_
              rw [hg.cell,←hj,List.getElem?_take,List.getElem?_drop]
              have:j < n*z2:=by rw [←hlenO];exact (List.getElem?_eq_some_iff.1 hj).1
              rw [if_pos this]
              simp)
            exact this
      . exact hk.elim
    . exact hk.elim
  . exact h.elim
end Go.Proofs.YtkaiffheakalmaaGreatDoor
