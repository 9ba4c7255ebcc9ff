/- Joined. No conditions. -/
import Derived.Test.YtkaiffheakalmaaGreatDoorJ9bc
set_option linter.unusedSimpArgs false
set_option linter.unusedVariables false
set_option maxRecDepth 100000
namespace Go.Proofs.YtkaiffheakalmaaGreatDoor
open Go.RowKit
mutual
/-- A value in which no frozen memory is named. -/
def V.noI:V→Bool
 | .any=>true
 | .bool _=>true
 | .int _ _=>true
 | .str _=>true
 | .nils=>true
 | .sl _ _ _=>true
 | .ptr _ _ _=>true
 | .it _=>true
 | .agg l=>LI l
 | .tup l=>LI l
 | _=>false
def LI:List V→Bool
 | []=>true
 | x::l=>x.noI&&LI l
end
theorem FV:∀(l:List V) (i:Nat) (c:V),LI l=true→l[i]?=some c→c.noI=true
 | [],i,c,_,hc=>by simp at hc
 | x::l,0,c,h,hc=>by
   simp only [LI,Bool.and_eq_true] at h
   simp at hc;subst hc;exact h.1
 | x::l,i+1,c,h,hc=>by
   simp only [LI,Bool.and_eq_true] at h
   exact FV l i c h.2 (by simpa using hc)
theorem Pr.noI {w:World} {I J:Nat→Prop} {v:Value} {x:V} (h:Pr w I v x):x.noI=true→Pr w J v x:=by
 induction h with
 | any v=>exact fun _=>.any v
 | bool b=>exact fun _=>.bool b
 | int k n=>exact fun _=>.int k n
 | str s h=>exact fun _=>.str s h
 | nils=>exact fun _=>.nils
 | agg vs l h1 h2 h3 ih=>exact fun e=>.agg vs l h1 h2 fun i v c hv hc=>ih i v c hv hc (FV l i c (by simpa [V.noI] using e) hc)
 | tup vs l h1 h2 ih=>exact fun e=>.tup vs l h1 fun i v c hv hc=>ih i v c hv hc (FV l i c (by simpa [V.noI] using e) hc)
 | _=>intro e;simp [V.noI] at e
theorem Rep.noI {w:World} {I J:Nat→Prop} {bl bl':Nat→Option BI} {v:Value} {x:V} (h:Rep w I bl v x) (hb:∀k i,bl k=some i→bl' k=some i):x.noI=true→Rep w J bl' v x:=by
 induction h with
 | pure v x h=>exact fun e=>.pure v x (h.noI e)
 | nsl k base z h=>exact fun _=>.nsl k base z (hb _ _ h)
 | sl k off len cap b base z m e h1 h2 h3 h4 h5=>exact fun _=>.sl k off len cap b base z m e (hb _ _ h1) h2 h3 h4 h5
 | esl k off a i h=>exact fun _=>.esl k off a i (hb _ _ h)
 | ptr k i j b base z m e h1 h2=>exact fun _=>.ptr k i j b base z m e (hb _ _ h1) h2
 | it k b base z h1=>exact fun _=>.it k b base z (hb _ _ h1)
 | agg vs l h1 h2 h3 ih=>exact fun e=>.agg vs l h1 h2 fun i v c hv hc=>ih i v c hv hc (FV l i c (by simpa [V.noI] using e) hc)
 | fn f vs l h1 h2 ih=>intro e;simp [V.noI] at e
 | tup vs l h1 h2 ih=>exact fun e=>.tup vs l h1 fun i v c hv hc=>ih i v c hv hc (FV l i c (by simpa [V.noI] using e) hc)
def Ob.noI:Ob→Bool
 | .row _ els=>LI els
 | _=>false
theorem aH {x c:V} {j:Nat} (h:x.noI=true) (hc:x.cells[j]?=some c):c.noI=true:=by
 cases x with
 | agg l=>exact FV l j c (by simpa [V.noI] using h) hc
 | _=>
   simp only [V.cells] at hc
   cases j with
   | zero=>simp only [List.getElem?_cons_zero,Option.some.injEq] at hc;subst hc;exact h
   | succ j=>simp at hc
theorem ObRep.noI {w:World} {I J:Nat→Prop} {bl bl':Nat→Option BI} {id:Nat} {o:Ob} (h:ObRep w I bl id o) (hb:∀k i,bl k=some i→bl' k=some i) (hl:o.noI=true):ObRep w J bl' id o:=by
 cases o with
 | row z els=>
   obtain ⟨bi,h1,h2,h3,h4⟩:=h
   refine ⟨bi,hb _ _ h1,h2,h3,?_⟩
   cases hbb:bi.blk with
   | none=>rw [hbb] at h4;exact h4
   | some b=>
     rw [hbb] at h4
     obtain ⟨cur,e,g1,g2,g3⟩:=h4
     refine ⟨cur,e,g1,g2,fun i x j c hx hc=>?_⟩
     obtain ⟨u,k1,k2,k3⟩:=g3 i x j c hx hc
     exact ⟨u,k1,k2,k3.noI hb (aH (FV els i x hl hx) hc)⟩
 | _=>simp [Ob.noI] at hl
theorem SH {P:Program} {f:FuncId} {args0 args1:List V} {objs0:List Ob} {fixed:List Nat} {R:V→List Ob→Prop} (k z:Nat) {els:List V} (h:HFn P f args0 objs0 fixed R) (hk:objs0.length=k) (hnr:BT els) (he:Ai k els args1=args0)
 (hfz:∀(j:Nat) (o:Ob),objs0[j]?=some o→o.frz k els=o) (hfx:∀j∈fixed,j < k) (hR:∀r o,R r o→r.noI=true∧∀(j:Nat) (ob:Ob),o[j]?=some ob→ob.noI=true):
 HFn P f args1 (objs0++[.row z els]) (k::fixed) (fun r o=>∃o0,R r o0∧o=o0++[.row z els]):=by
 intro w I bl vs hlen hargs hH
 have hat:((objs0++[Ob.row z els]).map some)[k]?=some (some (.row z els)):=by
  rw [List.getElem?_map,List.getElem?_append_right (by omega),hk,Nat.sub_self];rfl
 obtain ⟨bi,hb1,hb2,hb3,hb4⟩:=hH.obj k _ hat
 let I':Nat→Prop:=fun b=>I b∨bi.blk=some b
 let bl':Nat→Option BI:=fun j=>if j=k then none else bl j
 have hb:∀j,j≠k→bl' j=bl j:=fun j hj=>if_neg hj
 have hbk:bl' k=none:=if_pos rfl
 have hsub:∀j i,bl' j=some i→j < k∧bl j=some i:=fun j i hj=>by
  by_cases e:j=k
  ·subst e;rw [hbk] at hj;cases hj
  ·rw [hb j e] at hj
   obtain ⟨o,ho⟩:=hH.live j i hj
   have:=(List.getElem?_eq_some_iff.1 ho).1
   simp at this
   exact ⟨by omega,hj⟩
 have hf:Frz w I I' bl bl' k els:=by
  refine ⟨fun b h=>.inl h,hb,?_,?_⟩
  ·intro i b h1 h2
   rw [hb1] at h1
   simp only [Option.some.injEq] at h1
   subst h1
   refine ⟨.inr h2,fun k x hx=>by rw [hb2];exact hb3 k x hx,?_⟩
   rw [h2] at hb4
   obtain ⟨cur,e,hg,hsz,hc⟩:=hb4
   intro k x j c hx hxc
   obtain ⟨u,hu,h1',hr⟩:=hc k x j c hx hxc
   refine ⟨u,?_,h1',(hr.pr (EX (CA els k x hnr hx) j c hxc)).later (fun _ _=>rfl) (fun b h=>.inl h)⟩
   rw [hg.cell,hb2]
   exact hu
  ·intro i h1 h2
   rw [hb1] at h1
   simp only [Option.some.injEq] at h1
   subst h1
   rw [h2] at hb4
   exact hb4
 have hHc:HeapRep ⟨P,w,Af bl',I'⟩ (objs0.map some) w I' bl':=by
  refine ⟨fun j o ho=>?_,fun j i hj=>?_,fun j j' i i' b h1 h2 h3 h4=>?_,fun j i b h1 h2=>?_,fun b hb'=>⟨?_,.inl hb'⟩,Kept.refl _ _⟩
  ·have ho':objs0[j]?=some o:=by
    rw [List.getElem?_map,Option.map_eq_some_iff] at ho
    obtain ⟨o2,h1,h2⟩:=ho
    simp only [Option.some.injEq] at h2
    rw [h1,h2]
   have hj:j < k:=by rw [←hk];exact (List.getElem?_eq_some_iff.1 ho').1
   have:=(hH.obj j o (by rw [List.getElem?_map,List.getElem?_append_left (by omega),ho'];rfl)).frz hf (by omega)
   rwa [hfz j o ho'] at this
  ·obtain ⟨hj',_⟩:=hsub j i hj
   exact ⟨objs0[j]'(by omega),by rw [List.getElem?_map,List.getElem?_eq_getElem (by omega)];rfl⟩
  ·exact hH.apart j j' i i' b (hsub j i h1).2 (hsub j' i' h2).2 h3 h4
  ·obtain ⟨hj,h1'⟩:=hsub j i h1
   obtain ⟨g1,g2,g3⟩:=hH.own j i b h1' h2
   refine ⟨g1,fun hh=>hh.elim g2 fun e=>?_,.inl ⟨j,i,h1,h2⟩⟩
   have:=hH.apart j k i bi b h1' hb1 h2 e
   omega
  ·rcases hb' with hb'|hb'
   ·exact (hH.imm b hb').1
   ·exact (hH.own k bi b hb1 hb').1
 subst he
 refine (h w I' bl' vs (by rw [Ar];exact hlen) (fun i v x hv hx=>?_) hHc).mono ?_
 ·obtain ⟨y,hy,rfl⟩:=Bf k els args1 i x hx
  exact (hargs i v y hv hy).frz hf
 rintro e w' ⟨v,r,objs',I'',bl'',rfl,hRR,hlen',hrep,hH',hfix⟩
 obtain ⟨hr1,hr2⟩:=hR _ _ hRR
 rw [hk] at hlen'
 have hlive:∀j i,bl'' j=some i→j < k:=fun j i hj=>by
  obtain ⟨o,ho⟩:=hH'.live j i hj
  have:=(List.getElem?_eq_some_iff.1 ho).1
  simpa [hlen'] using this
 let bl3:Nat→Option BI:=fun j=>if j=k then bl k else bl'' j
 have h3:∀j,j≠k→bl3 j=bl'' j:=fun j hj=>if_neg hj
 have h3k:bl3 k=bl k:=if_pos rfl
 have hext:∀j i,bl'' j=some i→bl3 j=some i:=fun j i hj=>by rw [h3 j (by have:=hlive j i hj;omega)];exact hj
 have hkeep:∀b,b < w.heap.size→¬Af bl' b→w'.heap[b]?=w.heap[b]?:=fun b h1 h2=>hH'.kept.block b h1 h2
 have hsize:w.heap.size≤w'.heap.size:=hH'.kept.size
 have hbo:∀b,Af bl' b→∃j i,j < k∧bl j=some i∧i.blk=some b:=fun b ⟨j,i,h1,h2⟩=>⟨j,i,(hsub j i h1).1,(hsub j i h1).2,h2⟩
 have hnI:∀b,Af bl' b→¬I b:=fun b hb'=>by
  obtain ⟨j,i,_,h1,h2⟩:=hbo b hb'
  exact (hH.own j i b h1 h2).2.1
 have hlater:Later I w w':=⟨fun b hb'=>hkeep b (hH.imm b hb').1 (fun h=>hnI b h hb'),hH'.kept.shape⟩
 have hnk:∀b,bi.blk=some b→¬Af bl' b:=fun b hb' h=>by
  obtain ⟨j,i,hj,h1,h2⟩:=hbo b h
  have:=hH.apart j k i bi b h1 hb1 h2 hb'
  omega
 refine ⟨v,r,objs'++[.row z els],I,bl3,rfl,⟨objs',hRR,rfl⟩,by simp [hlen',hk],hrep.noI hext hr1,⟨fun j o ho=>?_,fun j i hj=>?_,fun j j' i i' b h1 h2 h4 h5=>?_,fun j i b h1 h2=>?_,fun b hb'=>⟨Nat.lt_of_lt_of_le (hH.imm b hb').1 hsize,.inl hb'⟩,⟨hH'.kept.os,hH'.kept.tape,hH'.kept.output,hsize,fun b h1 h2=>hkeep b h1 fun h=>h2 ?_,hH'.kept.shape⟩⟩,fun j hj=>?_⟩
 ·rw [List.getElem?_map] at ho
  by_cases hjk:j < k
  ·rw [List.getElem?_append_left (by omega),Option.map_eq_some_iff] at ho
   obtain ⟨o2,h1,h2⟩:=ho
   simp only [Option.some.injEq] at h2
   subst h2
   exact (hH'.obj j o2 (by rw [List.getElem?_map,h1];rfl)).noI hext (hr2 j o2 h1)
  ·by_cases hjk2:j=k
   ·subst hjk2
    rw [List.getElem?_append_right (by omega),hlen',Nat.sub_self] at ho
    simp only [List.getElem?_cons_zero,Option.map_some,Option.some.injEq] at ho
    subst ho
    refine ⟨bi,by rw [h3k];exact hb1,hb2,hb3,?_⟩
    cases hbb:bi.blk with
    | none=>rw [hbb] at hb4;exact hb4
    | some b=>
      rw [hbb] at hb4
      obtain ⟨cur,e,hg,hsz,hc⟩:=hb4
      have hsame:=hkeep b (hH.own j bi b hb1 hbb).1 (hnk b hbb)
      have hg':CellsAt z w' b cur e:=by
       obtain ⟨fz,q1,q2⟩:=hg
       exact ⟨fz,q1,hsame.trans q2⟩
      refine ⟨cur,e,hg',hsz,fun i x j' c hx hxc=>?_⟩
      obtain ⟨u,hu,h1',hr⟩:=hc i x j' c hx hxc
      exact ⟨u,hu,h1',.pure _ _ ((hr.pr (EX (CA els i x hnr hx) j' c hxc)).later hlater.block (fun _ h=>h))⟩
   ·rw [List.getElem?_eq_none (by simp [hlen'];omega)] at ho
    cases ho
 ·by_cases hjk:j=k
  ·subst hjk
   exact ⟨.row z els,by rw [List.getElem?_map,List.getElem?_append_right (by omega),hlen',Nat.sub_self];rfl⟩
  ·rw [h3 j hjk] at hj
   have hlt:=hlive j i hj
   exact ⟨objs'[j]'(by omega),by rw [List.getElem?_map,List.getElem?_append_left (by omega),List.getElem?_eq_getElem (by omega)];rfl⟩
 ·have key:∀j j' i i',j≠k→j'=k→bl3 j=some i→bl3 j'=some i'→i.blk=some b→i'.blk=some b→False:=by
   intro j j' i i' hj hj' h1 h2 h4 h5
   subst hj'
   rw [h3 j hj] at h1
   rw [h3k,hb1] at h2
   simp only [Option.some.injEq] at h2
   subst h2
   rcases (hH'.own j i b h1 h4).2.2 with g|g
   ·exact hnk b h5 g
   ·have g':w.heap.size≤b:=g
    have:=(hH.own _ bi b hb1 h5).1
    omega
  by_cases hjk:j=k
  ·by_cases hjk':j'=k
   ·rw [hjk,hjk']
   ·exact (key j' j i' i hjk' hjk h2 h1 h5 h4).elim
  ·by_cases hjk':j'=k
   ·exact (key j j' i i' hjk hjk' h1 h2 h4 h5).elim
   ·rw [h3 j hjk] at h1
    rw [h3 j' hjk'] at h2
    exact hH'.apart j j' i i' b h1 h2 h4 h5
 ·by_cases hjk:j=k
  ·subst hjk
   rw [h3k] at h1
   obtain ⟨g1,g2,g3⟩:=hH.own _ i b h1 h2
   exact ⟨Nat.lt_of_lt_of_le g1 hsize,g2,g3⟩
  ·rw [h3 j hjk] at h1
   obtain ⟨g1,g2,g3⟩:=hH'.own j i b h1 h2
   have g3:Af bl' b∨w.heap.size≤b:=g3
   rcases g3 with g3|g3
   ·obtain ⟨j2,i2,_,q1,q2⟩:=hbo b g3
    exact ⟨g1,hnI b g3,.inl ⟨j2,i2,q1,q2⟩⟩
   ·exact ⟨g1,fun hh=>by have:=(hH.imm b hh).1;omega,.inr g3⟩
 ·obtain ⟨j2,i2,_,q1,q2⟩:=hbo b h
  exact ⟨j2,i2,q1,q2⟩
 ·rcases List.mem_cons.1 hj with rfl|hj
  ·exact h3k
  ·have hlt:=hfx j hj
   rw [h3 j (by omega),hfix j hj,hb j (by omega)]
theorem QF {S:Ps} {n:Nat} {ρ:Nat→Nat} (hF:S.F.length≤4) (hn:7≤n) (hρ:∀j,j < 7→ρ j=j):∀(j:Nat) (o:Ob),(Bt S)[j]?=some o→Ns n ρ o o:=by
 have hrow:∀l:List Int,Ns n ρ (.row 1 (l.map (V.int .i64))) (.row 1 (l.map (V.int .i64))):=fun l=>Ik (AJ l)
 intro j o h
 match j,h with
 | 0,h=>
   cases h
   refine ⟨_,rfl,?_⟩
   unfold Sn
   simp only [Fj,B7]
   exact ⟨_,_,rfl,⟨_,rfl,_,_,rfl,⟨by omega,by rw [hρ 1 (by decide)]⟩,_,_,rfl,⟨by omega,by rw [hρ 2 (by decide)]⟩,_,_,rfl,rfl,_,_,rfl,rfl,_,_,rfl,rfl,rfl⟩,rfl⟩
 | 1,h=>cases h;exact hrow _
 | 2,h=>
   cases h
   refine ⟨_,rfl,Y1 rfl fun i c c' hc hc'=>?_⟩
   rw [hc] at hc'
   cases hc'
   unfold CU at hc
   rw [List.getElem?_map,Option.map_eq_some_iff] at hc
   obtain ⟨a,ha,rfl⟩:=hc
   have:=List.mem_range.1 (List.mem_of_getElem? ha)
   simp only [B7]
   exact ⟨by omega,by rw [hρ (3+a) (by omega)]⟩
 | 3,h=>cases h;exact hrow _
 | 4,h=>cases h;exact hrow _
 | 5,h=>cases h;exact hrow _
 | 6,h=>cases h;exact hrow _
 | j+7,h=>simp [Bt] at h
theorem FT:∀l:List Int,LI (l.map (V.int .i64))=true
 | []=>rfl
 | x::l=>by simp only [List.map_cons,LI,V.noI,FT l,Bool.and_true]
theorem Vn (S:Ps):∀(j:Nat) (o:Ob),(Bt S)[j]?=some o→o.noI=true:=by
 intro j o h
 match j,h with
 | 0,h=>cases h;rfl
 | 1,h=>cases h;exact FT _
 | 2,h=>
   cases h
   show LI (CU S.F)=true
   unfold CU
   have:∀l:List Nat,LI (l.map fun j=>V.sl (3+j) 0 (AE S.F j).length)=true:=by
    intro l
    induction l with
    | nil=>rfl
    | cons j l ih=>simp only [List.map_cons,LI,V.noI,ih,Bool.and_true]
   exact this _
 | 3,h=>cases h;exact FT _
 | 4,h=>cases h;exact FT _
 | 5,h=>cases h;exact FT _
 | 6,h=>cases h;exact FT _
 | j+7,h=>simp [Bt] at h
theorem E4 {S:Ps} (hF:S.F.length≤4) {id:Nat} (h8:7≤id) (els:List V):∀(j:Nat) (o:Ob),(Bt S)[j]?=some o→o.frz id els=o:=by
 have hrow:∀l:List Int,(Ob.row 1 (l.map (V.int .i64))).frz id els= .row 1 (l.map (V.int .i64)):=fun l=>by simp only [Ob.frz];rw [AX _ _ (AJ l)]
 intro j o h
 match j,h with
 | 0,h=>
   cases h
   simp only [Ob.frz,Sn,Ai,V.frz]
   rw [if_neg (by omega),if_neg (by omega)]
 | 1,h=>cases h;exact hrow _
 | 2,h=>
   cases h
   simp only [Ob.frz]
   congr 1
   unfold CU
   have:∀l:List Nat,(∀j∈l,j < 4)→Ai id els (l.map fun j=>V.sl (3+j) 0 (AE S.F j).length)=l.map fun j=>V.sl (3+j) 0 (AE S.F j).length:=by
    intro l
    induction l with
    | nil=>intro _;rfl
    | cons j l ih=>
      intro hj
      have h1:=hj j (by simp)
      simp only [List.map_cons,Ai]
      rw [ih fun k hk=>hj k (by simp [hk]),FL els (by omega)]
   exact this _ fun j hj=>by have:=List.mem_range.1 hj;omega
 | 3,h=>cases h;exact hrow _
 | 4,h=>cases h;exact hrow _
 | 5,h=>cases h;exact hrow _
 | 6,h=>cases h;exact hrow _
 | j+7,h=>simp [Bt] at h
theorem FU {S0:Ps} {h:List (Option Ob)} (e:h.take 7=(Bt S0).map some):∀(j:Nat) (o:Ob),(Bt S0)[j]?=some o→h[j]?=some (some o):=by
 intro j o ho
 have hj:j < 7:=(List.getElem?_eq_some_iff.1 ho).1
 have:=congrArg (fun l:List (Option Ob)=>l[j]?) e
 simp only [List.getElem?_take,if_pos hj,List.getElem?_map,ho] at this
 exact this
theorem NB {C:Ctx} {P:Program} {f:FuncId} {xs:List V} {S0 S1:Ps} {R0:V} {fop:Operand} {args:List Operand} {K:V→ES→Prop} {σ:ES} (h:HFn P f xs (Bt S0) [0] (fun r o=>r=R0∧o=Bt S1)) (hC:C.P=P) (hb:AB P f=true)
 (he:BO σ fop args=some (f,xs)) (hxs:Fj 7 (fun j=>j) xs xs) (hobj:∀(j:Nat) (o:Ob),(Bt S0)[j]?=some o→σ.heap[j]?=some (some o)) (h0:S0.F.length≤4) (h1:S1.F.length≤4) (hR:R0.nr)
 (hK:fH (BL (fun j=>j) (Bt S1) 0 (BG [1,2,3,4,5,6] σ.heap)) fun h=>K R0 ⟨σ.n,DE [1,2,3,4,5,6] σ.u,h⟩):CallN C fop args f xs K σ:=by
 rw [A7] at hK
 refine Vc h hC hb he hxs (fun j o ho=>⟨hobj j o ho,QF h0 (Nat.le_refl _) (fun _ _=>rfl) j o ho⟩) [1,2,3,4,5,6] (fun j hj hm=>?_) (fun j hj=>?_) (FK _ hR) (QF h1 (Nat.le_refl _) (fun _ _=>rfl)) rfl hK
 ·simp only [List.mem_cons,List.not_mem_nil,or_false] at hm ⊢
  have:j < 7:=hj
  omega
 ·simp only [List.mem_cons,List.not_mem_nil,or_false] at hj
  show j < 7
  omega
theorem Tv (k:Int) (out q:Pt) (S:Ps):(Gx k out q S).2.T=S.T:=by unfold Gx;split<;>rfl
theorem NC (k:Int):∀(a b:List Ex) (out:Pt) (S:Ps),DA k (a++b) out S=DA k b (DA k a out S).1 (DA k a out S).2
 | [],b,out,S=>by simp [DA]
 | y::a,b,out,S=>by
   rw [List.cons_append,DA,DA]
   exact NC k a b _ _
theorem Tw:∀(N:Nat),(∀(x:Ex) (S:Ps),El x≤N→S.T.length≤(BY x S).2.T.length)∧(∀(k:Int) (ps:List Ex) (S:Ps) (out:Pt),Ay ps≤N→S.T.length≤(DA k ps out S).2.T.length):=by
 intro N
 induction N using Nat.strongRecOn with
 | _ N ih=>
   have hE:∀(x:Ex) (S:Ps),El x≤N→S.T.length≤(BY x S).2.T.length:=by
    rintro ⟨k,t,ps⟩ S hx
    rw [CQ] at hx
    rw [BY]
    split
    ·simp
    ·have h1:=(ih (Ay ps) (by omega)).2 k ps S ⟨[],[],decide (k=2)⟩ (Nat.le_refl _)
     unfold QT
     split<;>exact h1
   refine ⟨hE,?_⟩
   intro k ps S out hps
   induction ps generalizing S out with
   | nil=>rw [DA];exact Nat.le_refl _
   | cons y ps ih2=>
     rw [DA]
     have hsz:Ay (y::ps)=El y+Ay ps:=by rw [Ay]
     have hy:=hE y S (by omega)
     refine Nat.le_trans hy ?_
     have:=ih2 (Gx k out (BY y S).1 (BY y S).2).2 (Gx k out (BY y S).1 (BY y S).2).1 (by omega)
     rwa [Tv] at this
theorem Hy (k:Int) (ps:List Ex) (S:Ps) (out:Pt) (j:Nat):(DA k (ps.take j) out S).2.T.length≤(DA k ps out S).2.T.length:=by
 have e:=NC k (ps.take j) (ps.drop j) out S
 rw [List.take_append_drop] at e
 rw [e]
 exact (Tw _).2 k (ps.drop j) _ _ (Nat.le_refl _)
def R9 (a:Nat):Nat→Nat|7=>a|j=>j
def XC (a b:Nat):Nat→Nat|7=>a|8=>b|j=>j
theorem Fo (a:Nat):∀j,j < 7→R9 a j=j:=fun j hj=>by
 match j,hj with
 | 0,_=>rfl|1,_=>rfl|2,_=>rfl|3,_=>rfl|4,_=>rfl|5,_=>rfl|6,_=>rfl
theorem ER (a b:Nat):∀j,j < 7→XC a b j=j:=fun j hj=>by
 match j,hj with
 | 0,_=>rfl|1,_=>rfl|2,_=>rfl|3,_=>rfl|4,_=>rfl|5,_=>rfl|6,_=>rfl
theorem ND (S:Ps) (fr to:List Int) (hF:S.F.length≤4) (hfr:∀i∈fr,0≤i∧i < S.F.length) (hto:∀k∈to,0≤k∧k < S.F.length) (hB:BdF S.F.length S.F):
 HFn Tryz.prog 76 [.ptr 0 0 0,.sl 7 0 fr.length,.lst (to.map (V.int .i64))] (Bt S++[.row 1 (fr.map (V.int .i64))]) [7,0] (fun r o=>∃o0,(r= .tup []∧o0=Bt ⟨S.T,Au fr to S.F⟩)∧o=o0++[.row 1 (fr.map (V.int .i64))]):=by
 refine SH 7 1 (fU S fr to hF hfr hto hB) rfl (AJ fr) ?_ (E4 hF (by decide) _) (fun j hj=>by simp at hj;omega) (fun r o h=>⟨by rw [h.1];rfl,by rw [h.2];exact Vn _⟩)
 show [_,(V.sl 7 0 fr.length).frz 7 (fr.map (V.int .i64)),_]=_
 rw [B0 7 _ (by simp)]
 rfl
theorem Tx (S:Ps) (fr to:List Int) (hF:S.F.length≤4) (hfr:∀i∈fr,0≤i∧i < S.F.length) (hto:∀k∈to,0≤k∧k < S.F.length) (hB:BdF S.F.length S.F):
 HFn Tryz.prog 76 [.ptr 0 0 0,.sl 7 0 fr.length,.sl 8 0 to.length] ((Bt S++[.row 1 (fr.map (V.int .i64))])++[.row 1 (to.map (V.int .i64))]) [8,7,0]
  (fun r o=>∃o1,(∃o0,(r= .tup []∧o0=Bt ⟨S.T,Au fr to S.F⟩)∧o1=o0++[.row 1 (fr.map (V.int .i64))])∧o=o1++[.row 1 (to.map (V.int .i64))]):=by
 refine SH 8 1 (ND S fr to hF hfr hto hB) rfl (AJ to) ?_ (fun j o ho=>?_) (fun j hj=>by simp at hj;omega) (fun r o h=>?_)
 ·show [_,(V.sl 7 0 fr.length).frz 8 (to.map (V.int .i64)),(V.sl 8 0 to.length).frz 8 (to.map (V.int .i64))]=_
  rw [B0 8 _ (by simp),FL _ (by decide)]
  rfl
 ·by_cases hj:j < 7
  ·rw [List.getElem?_append_left (show j < (Bt S).length from hj)] at ho
   exact E4 hF (by decide) _ j o ho
  ·rw [List.getElem?_append_right (show (Bt S).length≤j by show 7≤j;omega)] at ho
   have:j - (Bt S).length=j - 7:=rfl
   rw [this] at ho
   match hk:j - 7 with
   | 0=>
     rw [hk] at ho
     cases ho
     simp only [Ob.frz]
     rw [AX _ _ (AJ fr)]
   | n+1=>rw [hk] at ho;simp at ho
 ·obtain ⟨o0,⟨h1,h2⟩,h3⟩:=h
  refine ⟨by rw [h1];rfl,fun j ob hob=>?_⟩
  subst h2
  subst h3
  by_cases hj:j < 7
  ·rw [List.getElem?_append_left (show j < (Bt _).length from hj)] at hob
   exact Vn _ j ob hob
  ·rw [List.getElem?_append_right (show (Bt _).length≤j by show 7≤j;omega)] at hob
   have:j - (Bt ⟨S.T,Au fr to S.F⟩).length=j - 7:=rfl
   rw [this] at hob
   match hk:j - 7 with
   | 0=>
     rw [hk] at hob
     cases hob
     exact FT fr
   | n+1=>rw [hk] at hob;simp at hob
theorem XD {C:Ctx} {P:Program} {f:FuncId} {xs0 xs:List V} {S0 S1:Ps} {R0:V} {l:List Int} {fop:Operand} {args:List Operand} {K:V→ES→Prop} {σ:ES} (a:Nat) (ha:7≤a)
 (h:HFn P f xs0 (Bt S0++[.row 1 (l.map (V.int .i64))]) [7,0] (fun r o=>∃o0,(r=R0∧o0=Bt S1)∧o=o0++[.row 1 (l.map (V.int .i64))])) (hC:C.P=P) (hb:AB P f=true)
 (he:BO σ fop args=some (f,xs)) (hxs:Fj 8 (R9 a) xs0 xs) (hobj:∀(j:Nat) (o:Ob),(Bt S0)[j]?=some o→σ.heap[j]?=some (some o)) (hrow:σ.heap[a]?=some (some (.row 1 (l.map (V.int .i64))))) (h0:S0.F.length≤4) (h1:S1.F.length≤4) (hR:R0.nr)
 (hK:fH (BL (R9 a) (Bt S1++[.row 1 (l.map (V.int .i64))]) 0 (BG [1,2,3,4,5,6] σ.heap)) fun h=>K R0 ⟨σ.n,DE [1,2,3,4,5,6] σ.u,h⟩):CallN C fop args f xs K σ:=by
 rw [A7] at hK
 have hob:∀(S:Ps),S.F.length≤4→∀(j:Nat) (o:Ob),(Bt S++[Ob.row 1 (l.map (V.int .i64))])[j]?=some o→Ns 8 (R9 a) o o:=by
  intro S hS j o ho
  by_cases hj:j < 7
  ·rw [List.getElem?_append_left (show j < (Bt S).length from hj)] at ho
   exact QF hS (by decide) (Fo a) j o ho
  ·rw [List.getElem?_append_right (show (Bt S).length≤j by show 7≤j;omega)] at ho
   have:j - (Bt S).length=j - 7:=rfl
   rw [this] at ho
   match hk:j - 7 with
   | 0=>
     rw [hk] at ho
     cases ho
     exact Ik (AJ l)
   | n+1=>rw [hk] at ho;simp at ho
 have hcs:∀j,j < 8→j < 7∨j=7:=fun j hj=>by omega
 refine Fy h hC hb he (R9 a) (fun i j hi hj e=>?_) hxs (fun j o ho=>⟨o,?_,hob S0 h0 j o ho⟩) [1,2,3,4,5,6] (fun j hj hm=>?_) (fun j hj=>?_) ?_
 ·rcases hcs i hi with h|rfl<;>rcases hcs j hj with h'|rfl
  ·rwa [Fo a i h,Fo a j h'] at e
  ·rw [Fo a i h] at e;have:i=a:=e;omega
  ·rw [Fo a j h'] at e;have:a=j:=e;omega
  ·rfl
 ·have hj:j < 8:=(List.getElem?_eq_some_iff.1 ho).1
  rcases hcs j hj with h|rfl
  ·rw [List.getElem?_append_left (show j < (Bt S0).length from h)] at ho
   rw [Fo a j h]
   exact hobj j o ho
  ·cases ho
   exact hrow
 ·rcases hcs j hj with h|rfl
  ·rw [Fo a j h] at hm
   simp only [List.mem_cons,List.not_mem_nil,or_false] at hm ⊢
   omega
  ·simp
 ·simp only [List.mem_cons,List.not_mem_nil,or_false] at hj
  exact ⟨j,by show j < 8;omega,Fo a j (by omega)⟩
 ·rintro r0 objs' ⟨o0,⟨rfl,rfl⟩,rfl⟩ _
  refine ⟨r0,Bt S1++[.row 1 (l.map (V.int .i64))],FK _ hR,rfl,fun j o o' ho ho'=>?_,hK⟩
  rw [ho] at ho'
  cases ho'
  exact hob S1 h1 j o ho
theorem XE {C:Ctx} {P:Program} {f:FuncId} {xs0 xs:List V} {S0 S1:Ps} {R0:V} {l m:List Int} {fop:Operand} {args:List Operand} {K:V→ES→Prop} {σ:ES} (a b:Nat) (ha:7≤a) (hb7:7≤b) (hab:a≠b)
 (h:HFn P f xs0 ((Bt S0++[.row 1 (l.map (V.int .i64))])++[.row 1 (m.map (V.int .i64))]) [8,7,0] (fun r o=>∃o1,(∃o0,(r=R0∧o0=Bt S1)∧o1=o0++[.row 1 (l.map (V.int .i64))])∧o=o1++[.row 1 (m.map (V.int .i64))])) (hC:C.P=P) (hb:AB P f=true)
 (he:BO σ fop args=some (f,xs)) (hxs:Fj 9 (XC a b) xs0 xs) (hobj:∀(j:Nat) (o:Ob),(Bt S0)[j]?=some o→σ.heap[j]?=some (some o)) (hrow:σ.heap[a]?=some (some (.row 1 (l.map (V.int .i64))))) (hrow2:σ.heap[b]?=some (some (.row 1 (m.map (V.int .i64))))) (h0:S0.F.length≤4) (h1:S1.F.length≤4) (hR:R0.nr)
 (hK:fH (BL (XC a b) ((Bt S1++[.row 1 (l.map (V.int .i64))])++[.row 1 (m.map (V.int .i64))]) 0 (BG [1,2,3,4,5,6] σ.heap)) fun h=>K R0 ⟨σ.n,DE [1,2,3,4,5,6] σ.u,h⟩):CallN C fop args f xs K σ:=by
 rw [A7] at hK
 have hcs:∀j,j < 9→j < 7∨j=7∨j=8:=fun j hj=>by omega
 have hob:∀(S:Ps),S.F.length≤4→∀(j:Nat) (o:Ob),((Bt S++[Ob.row 1 (l.map (V.int .i64))])++[Ob.row 1 (m.map (V.int .i64))])[j]?=some o→Ns 9 (XC a b) o o:=by
  intro S hS j o ho
  have hj:j < 9:=(List.getElem?_eq_some_iff.1 ho).1
  rcases hcs j hj with h|rfl|rfl
  ·rw [List.append_assoc,List.getElem?_append_left (show j < (Bt S).length from h)] at ho
   exact QF hS (by decide) (ER a b) j o ho
  ·cases ho;exact Ik (AJ l)
  ·cases ho;exact Ik (AJ m)
 refine Fy h hC hb he (XC a b) (fun i j hi hj e=>?_) hxs (fun j o ho=>⟨o,?_,hob S0 h0 j o ho⟩) [1,2,3,4,5,6] (fun j hj hm=>?_) (fun j hj=>?_) ?_
 ·rcases hcs i hi with h|rfl|rfl<;>rcases hcs j hj with h'|rfl|rfl
  ·rwa [ER a b i h,ER a b j h'] at e
  ·rw [ER a b i h] at e;have:i=a:=e;omega
  ·rw [ER a b i h] at e;have:i=b:=e;omega
  ·rw [ER a b j h'] at e;have:a=j:=e;omega
  ·rfl
  ·exact absurd (show a=b from e) hab
  ·rw [ER a b j h'] at e;have:b=j:=e;omega
  ·exact absurd (show b=a from e).symm hab
  ·rfl
 ·have hj:j < 9:=(List.getElem?_eq_some_iff.1 ho).1
  rcases hcs j hj with h|rfl|rfl
  ·rw [List.append_assoc,List.getElem?_append_left (show j < (Bt S0).length from h)] at ho
   rw [ER a b j h]
   exact hobj j o ho
  ·cases ho;exact hrow
  ·cases ho;exact hrow2
 ·rcases hcs j hj with h|rfl|rfl
  ·rw [ER a b j h] at hm
   simp only [List.mem_cons,List.not_mem_nil,or_false] at hm ⊢
   omega
  ·simp
  ·simp
 ·simp only [List.mem_cons,List.not_mem_nil,or_false] at hj
  exact ⟨j,by show j < 9;omega,ER a b j (by omega)⟩
 ·rintro r0 objs' ⟨o1,⟨o0,⟨rfl,rfl⟩,rfl⟩,rfl⟩ _
  refine ⟨r0,(Bt S1++[.row 1 (l.map (V.int .i64))])++[.row 1 (m.map (V.int .i64))],FK _ hR,rfl,fun j o o' ho ho'=>?_,hK⟩
  rw [ho] at ho'
  cases ho'
  exact hob S1 h1 j o ho
theorem dF {S:Ps} (hF:S.F.length≤4):Cg 7 (Bt S)=true:=by
 unfold Bt Sn fo
 simp only [Cg,Ob.low,FS,Vm hF,CP,V.low,Bool.true_and,Bool.and_true]
 rfl
theorem LZ {C:Ctx} {vs:List Value} (hE:EOk Tryz.tt C) (k t:Int) (P:List V) (o0 o1 o2 o3 o4 o5 o6:List V) {S':Ps} (hF:S'.F.length≤4) (fi la:List Int) (b:Bool) {u:List (Nat×V)} (hu:AU u 4= .ptr 9 0 0):
 HRetN Tryz.tt C Tryz.f52 [.ptr 0 0 0,.agg [.int .i64 k,.int .i64 t,.lst P]] [.row 5 o0,.row 1 o1,.row 1 o2,.row 1 o3,.row 1 o4,.row 1 o5,.row 1 o6] vs [0] (fun r o=>r=R8 ⟨fi,la,b⟩∧o=Bt S')
  ⟨Tryz.f52.ntmps,u,(Bt S').map some++[some (.hid vs [.ptr 0 0 0,.agg [.int .i64 k,.int .i64 t,.lst P]]),some (.row 1 (fi.map (V.int .i64))),some (.row 3 [.agg [.sl 8 0 fi.length,.sl 11 0 la.length,.bool b]]),some (.row 3 [.agg [.sl 8 0 fi.length,.sl 11 0 la.length,.bool b]]),some (.row 1 (la.map (V.int .i64)))]⟩:=by
 refine Ap (AK 8 rfl (AJ fi) (AK 11 (z:=1) (els:=la.map (V.int .i64)) ?_ (AJ la) (A0 ((Bt S').map some++[some (.hid vs [.ptr 0 0 0,.agg [.int .i64 k,.int .i64 t,.lst P]]),none,some (.row 3 [.agg [.lst (fi.map (V.int .i64)),.lst (la.map (V.int .i64)),.bool b]]),some (.row 3 [.agg [.lst (fi.map (V.int .i64)),.lst (la.map (V.int .i64)),.bool b]]),none]) ?_ (HO [4] (σ':=⟨Tryz.f52.ntmps,[(4,.ptr 9 0 0)],(Bt S').map some++[some (.hid vs [.ptr 0 0 0,.agg [.int .i64 k,.int .i64 t,.lst P]]),none,some (.row 3 [.agg [.lst (fi.map (V.int .i64)),.lst (la.map (V.int .i64)),.bool b]]),some (.row 3 [.agg [.lst (fi.map (V.int .i64)),.lst (la.map (V.int .i64)),.bool b]]),none]⟩) ?_ (A5 hE ?_)))))
 ·show some (some (Ob.row 1 (Ai 8 (fi.map (V.int .i64)) (la.map (V.int .i64)))))=_
  rw [AX _ _ (AJ la)]
 ·conv=>whnf
  have e1:(V.sl 8 0 fi.length).frz 8 (fi.map (V.int .i64))= .lst (fi.map (V.int .i64)):=B0 8 _ (by simp)
  have e2:(V.sl 11 0 la.length).frz 11 (la.map (V.int .i64))= .lst (la.map (V.int .i64)):=B0 11 _ (by simp)
  have e3:(V.sl 11 0 la.length).frz 8 (fi.map (V.int .i64))= .sl 11 0 la.length:=FL _ (by decide)
  have f1:=Jh (F:=S'.F) hF (id:=8) (by decide)
  have f2:=Jh (F:=S'.F) hF (id:=11) (by decide)
  have fa:∀id els l,(V.agg l).frz id els= .agg (Ai id els l):=fun _ _ _=>by simp only [V.frz]
  have fl:∀id els l,(V.lst l).frz id els= .lst l:=fun _ _ _=>by simp only [V.frz]
  simp only [Ai,fa,e1,e2,e3,fl,AX _ _ (AJ _),f1,f2]
  rfl
 ·show (⟨_,Az [4] (Fw 11 _ (Fw 8 _ u)),_⟩:ES)=_
  have:AU (Fw 11 (la.map (V.int .i64)) (Fw 8 (fi.map (V.int .i64)) u)) 4= .ptr 9 0 0:=by rw [Bk,Bk,hu];rfl
  simp only [Az,List.map_cons,List.map_nil,this]
 ·conv=>whnf
  exact ⟨rfl,rfl,rfl,dF hF,rfl,rfl⟩
def QG (x:Ex) (S:Ps):Prop:=HFn Tryz.prog 52 [.ptr 0 0 0,Ah x] (Bt S) [0] (fun r o=>r=R8 (BY x S).1∧o=Bt (BY x S).2)
set_option maxHeartbeats 16000000 in
theorem XF (k t:Int) (ps:List Ex) (S:Ps) (hS:OkS S) (hk1:k≠1) (hk2:k≠2) (h4:(DA k ps ⟨[],[],false⟩ S).2.T.length≤4) (ih:∀y∈ps,∀S,OkS S→(BY y S).2.T.length≤4→QG y S):
 HFn Tryz.prog 52 [.ptr 0 0 0,.agg [.int .i64 k,.int .i64 t,.lst (ps.map Ah)]] (Bt S) [0] (fun r o=>r=R8 (BY (.mk k t ps) S).1∧o=Bt (BY (.mk k t ps) S).2):=by
 have hpm:(ps.map Ah).length=ps.length:=by simp
 have hl:=hS.len
 have e0:BY (.mk k t ps) S=QT k (DA k ps ⟨[],[],false⟩ S):=by rw [BY,if_neg hk1,decide_eq_false hk2]
 rw [e0]
 clear e0
 have h40:S.T.length≤4:=Nat.le_trans ((Tw _).2 k ps S _ (Nat.le_refl _)) h4
 refine IJ Tryz.func52 fun C vs hC hE=>?_
 conv=>whnf
 repeat' (first|refine A1 ?_|intro hlen)<;>conv=>whnf
 refine Ab (fun ((j,out,Sx):Nat×Pt×Ps)=>⟨140,[(0,.ptr 0 0 0),(3,.rp [.int .i64 k,.int .i64 t,.lst (ps.map Ah)]),(4,.ptr 9 0 0),(6,.ptr 10 0 0),(48,.lst (ps.map Ah)),(49,.int .i64 (ps.map Ah).length),(50,.int .i64 j)],(Bt Sx).map some++[some (.hid vs [.ptr 0 0 0,.agg [.int .i64 k,.int .i64 t,.lst (ps.map Ah)]]),some (.row 1 (out.first.map (V.int .i64))),some (.row 3 [.agg [.nils,.nils,.bool false]]),some (.row 3 [.agg [.sl 8 0 out.first.length,.sl 11 0 out.last.length,.bool out.none]]),some (.row 1 (out.last.map (V.int .i64)))]⟩)
  (fun (j,out,Sx)=>j≤ps.length∧DA k (ps.take j) ⟨[],[],false⟩ S=(out,Sx)) (fun (j,_,_)=>ps.length - j) (0,⟨[],[],false⟩,S) hE ?_ ⟨Nat.zero_le _,rfl⟩ ?_
 ·refine AK 8 (z:=3) (els:=[.agg [.int .i64 k,.int .i64 t,.lst (ps.map Ah)]]) rfl ⟨⟨trivial,trivial,trivial,trivial⟩,trivial⟩ (Cw 10 0 1 rfl rfl (Cw 10 1 1 rfl rfl (AP [0,3,4,6,48,49,50] ?_)))
  conv=>whnf
  simp only [Jh (F:=S.F) (by omega) (Nat.le_refl 8),AX _ _ (AJ _)]
  rfl
 rintro ⟨j,⟨fi,la,no⟩,Sx⟩ ⟨hj,hA⟩
 have h00:OkP S ⟨[],[],false⟩ S:=⟨hS,Nat.le_refl _,fun x hx=>(List.not_mem_nil hx).elim,fun x hx=>(List.not_mem_nil hx).elim,(by simp),(by simp)⟩
 have hP:=Vp k (ps.take j) h00
 have hP4:=Hy k ps S ⟨[],[],false⟩ j
 rw [hA] at hP hP4
 have hPl:Sx.F.length=Sx.T.length:=hP.ok.len
 have hP4':Sx.T.length≤4:=Nat.le_trans hP4 h4
 have hfl:fi.length≤4:=by have:=hP.fl;simp only at this hP4;omega
 have hll:la.length≤4:=by have:=hP.ll;simp only at this hP4;omega
 have hfm:(fi.map (V.int .i64)).length=fi.length:=by simp
 have hlm:(la.map (V.int .i64)).length=la.length:=by simp
 by_cases hlt:j < ps.length
 ·obtain ⟨y,hy⟩:∃y,ps[j]?=some y:=⟨_,List.getElem?_eq_getElem hlt⟩
  have gy:(ps.map Ah)[j]?=some (Ah y):=by rw [List.getElem?_map,hy];rfl
  have hnx:=KV (k:=k) (ps:=ps) (j:=j) (y:=y) ⟨[],[],false⟩ S hy
  rw [hA] at hnx
  have hQ4:(BY y Sx).2.T.length≤4:=by
   have:=Hy k ps S ⟨[],[],false⟩ (j+1)
   rw [hnx,Tv] at this
   exact Nat.le_trans this h4
  have hc:=ih y (List.mem_of_getElem? hy) Sx hP.ok hQ4
  have hQ:=Z2 y hP.ok
  unfold QG at hc
  generalize BY y Sx=q at hnx hQ4 hc hQ
  obtain ⟨⟨qf,ql,qn⟩,S2⟩:=q
  have hQl:S2.F.length=S2.T.length:=hQ.ok.len
  have hQ4':S2.T.length≤4:=hQ4
  have hqf:qf.length≤4:=by have:=hQ.fl;simp only at this hQ4;omega
  have hql:ql.length≤4:=by have:=hQ.ll;simp only at this hQ4;omega
  have hqfm:(qf.map (V.int .i64)).length=qf.length:=by simp
  have hqlm:(ql.map (V.int .i64)).length=ql.length:=by simp
  have hxs:Fj 7 (fun j=>j) [V.ptr 0 0 0,Ah y] [V.ptr 0 0 0,Ah y]:=⟨_,_,rfl,⟨by decide,rfl⟩,_,_,rfl,FK _ (Gb [y]).1,rfl⟩
  have hx0:Sx.F.length≤4:=by omega
  have hx2:S2.F.length≤4:=by omega
  unfold Gx at hnx
  rw [if_pos hk2] at hnx
  simp only at hnx
  have k8:=Cm (F:=S2.F) (n:=8) (by omega)
  have k11:=Cm (F:=S2.F) (n:=11) (by omega)
  have k12:=Cm (F:=S2.F) (n:=12) (by omega)
  have k13:=Cm (F:=S2.F) (n:=13) (by omega)
  have tf:List.take fi.length (List.drop 0 (fi.map (V.int .i64)))=fi.map (V.int .i64):=by rw [List.drop_zero,List.take_of_length_le (by simp)]
  have tl:List.take la.length (List.drop 0 (la.map (V.int .i64)))=la.map (V.int .i64):=by rw [List.drop_zero,List.take_of_length_le (by simp)]
  have tqf:List.take qf.length (List.drop 0 (qf.map (V.int .i64)))=qf.map (V.int .i64):=by rw [List.drop_zero,List.take_of_length_le (by simp)]
  have tql:List.take ql.length (List.drop 0 (ql.map (V.int .i64)))=ql.map (V.int .i64):=by rw [List.drop_zero,List.take_of_length_le (by simp)]
  cases no
  all_goals cases qn
  all_goals
   conv=>whnf
   repeat' (first|(first|refine A2 ?_|refine A1 ?_|refine AO ?_|refine AV ?_|refine Ad ?_|refine NB hc hC EH rfl hxs (FU rfl) hx0 hx2 ⟨trivial,trivial,trivial,trivial⟩ ?_|(refine EA hE ⟨0,[(0,none),(1,none),(2,none),(3,none),(5,none),(6,none),(7,none),(8,none)],some 4,[5,6,7,8],[[],[6],[5,6],[8],[6,8],[5,6,8],[7,8],[6,7,8],[5,6,7,8]],[]⟩ [⟨0,[(10,none)],some 9,[10],[[],[10]],[]⟩,⟨0,[],some 11,[],[[]],[]⟩,⟨0,[(12,none)],some 13,[],[[]],[]⟩] [[]] [5,6,7,8] 4 ?_ ?_;decide +kernel))<;>conv=>whnf|refine EqL.mk rfl rfl|(first|refine ⟨CR _,?_⟩|(refine EN ⟨?_,?_,?_⟩ ?_;(simp only [AQ]<;>omega);(show _+_≤9223372036854775807;simp [AQ];omega);(show (_+_)*_≤140737488355328;simp [AQ];omega))|refine By ?_|refine JM ?_ ?_)<;>conv=>whnf)
   all_goals
    refine AM [0,3,4,6,48,49,50] [12,13] (j+1,⟨fi++qf,la++ql,_⟩,S2) ⟨hlt,hnx⟩ (by show ps.length - (j+1) < ps.length - j;omega) ?_
    conv=>whnf
    simp only [AA _ (AJ _),BH,k8,k11,k12,k13,tf,tl,tqf,tql,List.map_append,List.length_append,List.length_map]
    rfl
 ·obtain rfl:j=ps.length:=by omega
  rw [List.take_length] at hA
  rw [hA] at h4 ⊢
  have hx0:Sx.F.length≤4:=by omega
  have hB:=hP.ok.bd
  have hfi:∀x∈fi,0≤x∧x < (Sx.F.length:Int):=hP.fi
  have hla:∀x∈la,0≤x∧x < (Sx.F.length:Int):=hP.la
  have hlk:=Tx Sx la fi hx0 hla hfi hB
  have hlF:(Au la fi Sx.F).length≤4:=by rw [CS];exact hx0
  have hxs:Fj 9 (XC 11 8) [V.ptr 0 0 0,.sl 7 0 la.length,.sl 8 0 fi.length] [V.ptr 0 0 0,.sl 11 0 la.length,.sl 8 0 fi.length]:=⟨_,_,rfl,⟨by decide,rfl⟩,_,_,rfl,⟨by decide,rfl⟩,_,_,rfl,⟨by decide,rfl⟩,rfl⟩
  unfold QT
  by_cases h45:k=4∨k=5
  ·rw [if_pos h45]
   rcases h45 with rfl|rfl
   all_goals cases no
   all_goals
    conv=>whnf
    repeat' (first|refine A2 ?_|refine A1 ?_|refine XE (S1:=⟨Sx.T,Au la fi Sx.F⟩) 11 8 (by decide) (by decide) (by decide) hlk hC FZ rfl hxs (FU rfl) rfl rfl hx0 hlF trivial ?_)<;>conv=>whnf
    refine Ap (Bm [4] (A0 ((Bt ⟨Sx.T,Au la fi Sx.F⟩).map some++[some (.hid vs [.ptr 0 0 0,.agg [.int .i64 _,.int .i64 t,.lst (ps.map Ah)]]),some (.row 1 (fi.map (V.int .i64))),some (.row 3 [.agg [.sl 8 0 fi.length,.sl 11 0 la.length,.bool _]]),some (.row 3 [.agg [.sl 8 0 fi.length,.sl 11 0 la.length,.bool _]]),some (.row 1 (la.map (V.int .i64)))]) ?_ (AH (LZ hE _ t (ps.map Ah) _ _ _ _ _ _ _ hlF fi la _ rfl))))
    conv=>whnf
    simp only [AA _ (AJ _)]
    rfl
  ·rw [if_neg h45]
   have e4:decide (k=4)=false:=decide_eq_false fun h=>h45 (.inl h)
   have hk4:k≠4:=fun h=>h45 (.inl h)
   have hk5:k≠5:=fun h=>h45 (.inr h)
   rw [e4]
   by_cases h6:k=6
   ·subst h6
    all_goals cases no
    all_goals
     conv=>whnf
     repeat' (first|refine A2 ?_|refine A1 ?_)<;>conv=>whnf
     refine Ap (Bm [4] (A0 ((Bt Sx).map some++[some (.hid vs [.ptr 0 0 0,.agg [.int .i64 _,.int .i64 t,.lst (ps.map Ah)]]),some (.row 1 (fi.map (V.int .i64))),some (.row 3 [.agg [.sl 8 0 fi.length,.sl 11 0 la.length,.bool _]]),some (.row 3 [.agg [.sl 8 0 fi.length,.sl 11 0 la.length,.bool _]]),some (.row 1 (la.map (V.int .i64)))]) ?_ (AH (LZ hE _ t (ps.map Ah) _ _ _ _ _ _ _ hx0 fi la _ rfl))))
     conv=>whnf
     simp only [AA _ (AJ _)]
     rfl
   ·rw [decide_eq_false h6]
    all_goals cases no
    all_goals
     conv=>whnf
     repeat' refine A1 ?_<;>conv=>whnf
     refine Ap (Bm [4] (A0 ((Bt Sx).map some++[some (.hid vs [.ptr 0 0 0,.agg [.int .i64 _,.int .i64 t,.lst (ps.map Ah)]]),some (.row 1 (fi.map (V.int .i64))),some (.row 3 [.agg [.sl 8 0 fi.length,.sl 11 0 la.length,.bool _]]),some (.row 3 [.agg [.sl 8 0 fi.length,.sl 11 0 la.length,.bool _]]),some (.row 1 (la.map (V.int .i64)))]) ?_ (AH (LZ hE _ t (ps.map Ah) _ _ _ _ _ _ _ hx0 fi la _ rfl))))
     conv=>whnf
     simp only [AA _ (AJ _)]
     rfl
end Go.Proofs.YtkaiffheakalmaaGreatDoor
