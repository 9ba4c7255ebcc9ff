/- Joined. No conditions. -/
import Derived.Test.YtkaiffheakalmaaGreatDoorJ9bf
set_option linter.unusedSimpArgs false
set_option linter.unusedVariables false
set_option maxRecDepth 100000
namespace Go.Proofs.YtkaiffheakalmaaGreatDoor
open Go.RowKit
theorem Rf {C:Ctx} {f:FuncId} {xs:List V} {r0:V} {K:V→St→Prop} {σ:St} (id:Nat) {z:Nat} {els:List V} (hrow:σ.row id=some (z,els)) (hnr:BT els) (h:Xy C f (Ai id els xs) (fun r=>r=r0)) (hx:BT (Ai id els xs)) (hs:Xz r0=true) (hk:K r0 σ):Lw C f xs K σ:=by
 intro a w vs ⟨I,bl,h1,h2,h3,h4⟩
 obtain ⟨bi,hb1,hb2,hb3,hb4⟩:=h4.obj id _ (Dh hrow)
 let I':Nat→Prop:=fun b=>I b∨bi.blk=some b
 let bl':Nat→Option BI:=fun k=>if k=id then none else bl k
 have hb:∀k,k≠id→bl' k=bl k:=fun k hk=>if_neg hk
 have hf:Frz w I I' bl bl' id els:=by
  refine ⟨fun b h=>.inl h,hb,?_,?_⟩
  ·intro i b h1 h2
   rw [hb1] at h1
   simp only [Option.some.injEq] at h1
   subst h1
   refine ⟨.inr h2,fun k x hx=>by rw [hb2];exact hb3 k x hx,?_⟩
   rw [h2] at hb4
   obtain ⟨cur,e,hg,hsz,hc⟩:=hb4
   intro k x j c hx hxc
   obtain ⟨u,hu,h1',hr⟩:=hc k x j c hx hxc
   refine ⟨u,?_,h1',(hr.pr (EX (CA els k x hnr hx) j c hxc)).later (fun _ _=>rfl) (fun b h=>.inl h)⟩
   rw [hg.cell,hb2]
   exact hu
  ·intro i h1 h2
   rw [hb1] at h1
   simp only [Option.some.injEq] at h1
   subst h1
   rw [h2] at hb4
   exact hb4
 have hI'lt:∀b,I' b→b < w.heap.size:=by
  rintro b (hb|hb)
  ·exact (h4.imm b hb).1
  ·exact (h4.own id bi b hb1 hb).1
 refine (h w I' vs h4.kept (by rw [Ar];exact h3.1) (fun i v x hv hx'=>?_) hI'lt).mono ?_
 ·obtain ⟨y,hy,rfl⟩:=Bf id els xs i x hx'
  exact ((h3.2 i v y hv hy).frz hf).pr (CA _ i _ hx hx')
 rintro e w' ⟨v,r,I'',rfl,rfl,hpr,hI'',hkept⟩
 refine ⟨v,r,σ,rfl,hk,?_⟩
 have hsame:∀b,b < w.heap.size→w'.heap[b]?=w.heap[b]?:=fun b hb=>hkept.block b hb (fun h=>h)
 have hl:Later I w w':=⟨fun b hb=>hsame b (h4.imm b hb).1,fun b s hs=>by
  have hlt:b < w.heap.size:=by
   unfold World.shape? at hs
   split at hs
   ·rename_i h;exact (Array.getElem?_eq_some_iff.1 h).1
   ·cases hs
  rw [CF (hsame b hlt)];exact hs⟩
 have hI:∀b,I b→I b:=fun b hb=>hb
 refine ⟨I,bl,h1,h2.later hl hI (fun _ _ h=>h),⟨rfl,fun i v' x hv hx'=>?_⟩,⟨fun id o ho=>(h4.obj id o ho).later hl hI (fun _ _ h=>h) (fun i b hb1 hb2=>hsame b (h4.own id i b hb1 hb2).1) (fun h=>h),h4.live,h4.apart,fun id i b hb1 hb2=>?_,fun k hk'=>?_,h4.kept.trans ⟨hkept.os,hkept.tape,hkept.output,hkept.size,fun k hk1 _=>hkept.block k hk1 (fun h=>h),hkept.shape⟩⟩⟩
 ·cases i with
  | zero=>simp at hv hx';subst hv;subst hx';exact .pure _ _ (hpr.sc hs)
  | succ i=>simp at hv
 ·obtain ⟨g1,g2,g3⟩:=h4.own id i b hb1 hb2
  exact ⟨Nat.lt_of_lt_of_le g1 hkept.size,g2,g3⟩
 ·obtain ⟨g1,g2⟩:=h4.imm k hk'
  exact ⟨Nat.lt_of_lt_of_le g1 hkept.size,g2⟩
theorem Mf {C:Ctx} {P:Program} {fop:Operand} {args:List Operand} {f:FuncId} {xs xs':List V} {r:V} {K:V→ES→Prop} {σ:ES} (id:Nat) {z:Nat} {els:List V} (h:Xy C f xs' (fun r'=>r'=r)) (hC:C.P=P) (hb:AB P f=true) (hr:σ.heap[id]?=some (some (.row z els))) (hnr:BT els) (hs:Xz r=true) (e:Ai id els xs=xs') (hn:Fa xs'=true) (he:BO σ fop args=some (f,xs)) (hk:K r σ):CallN C fop args f xs K σ:=by
 subst hC
 subst e
 obtain ⟨caps,h1,h2⟩:=CI he
 refine ⟨BM ?_⟩
 unfold Dz
 rw [h1]
 simp only
 rw [h2]
 exact ⟨hb,Rf id (z:=z) (els:=els) (by simp [St.row,ES.st,hr]) hnr h (Fi _ hn) hs (DH hk)⟩
theorem JT {C:Ctx} {P:Program} {fop:Operand} {args:List Operand} {f:FuncId} {xs:List V} {R:V→Prop} {K:V→ES→Prop} {σ:ES} (h:Xy C f xs R) (hC:C.P=P) (hb:AB P f=true) (he:BO σ fop args=some (f,xs)) (hn:Fa xs=true) (hk:∀r,R r→K r σ):CallN C fop args f xs K σ:=by
 subst hC
 obtain ⟨caps,h1,h2⟩:=CI he
 refine ⟨BM ?_⟩
 unfold Dz
 rw [h1]
 simp only
 rw [h2]
 exact ⟨hb,F6 h (Fi _ hn) fun r hr=>DH (hk r hr)⟩
structure RndP (N:List (List Int)) (n:Nat) (C C':List Int) (M:List (List Int×Int)) (i:Nat):Prop where
 len:C'.length=n
 neg:∀j,j < n→j < i→ci C j < 0→ci C' j= -1
 pos:∀j,j < n→j < i→0≤ci C j→A8 (Ci N C j) M=some (ci C' j)
 idx:∀(j:Nat) (q:List Int×Int),M[j]?=some q→q.2=(j:Int)∧∃i,i < n∧0≤ci C i∧q.1=Ci N C i
 nodup:(M.map (·.1)).Nodup
 small:M.length≤i
 bnd:∀x∈C',-1≤x∧x≤1048577
theorem KH {C:List Int} {n i:Nat} (h:C.length=n) (hi:i < n) (v:Int) (j:Nat):ci (C.set i v) j=if j=i then v else ci C j:=by
 unfold ci
 rw [List.getElem?_set]
 by_cases e:i=j
 ·subst e;simp [h,hi]
 ·rw [if_neg e,if_neg (Ne.symm e)]
theorem Id {C:List Int} {n i:Nat} (h:C.length=n) (hi:i < n):C[i]?=some (ci C i):=by
 obtain ⟨b,hb⟩:∃b,C[i]?=some b:=⟨_,List.getElem?_eq_getElem (by omega)⟩
 simp [ci,hb]
section
variable {N:List (List Int)} {n:Nat} {C C':List Int} {M:List (List Int×Int)} {i:Nat}
theorem RndP.full (h:RndP N n C C' M n):Rnd N n C C' M:=⟨h.len,fun j hj=>h.neg j hj hj,fun j hj=>h.pos j hj hj,h.idx,h.nodup⟩
theorem RndP.put (h:RndP N n C C' M i) (hi:i < n) (v:Int) (hv:-1≤v∧v≤1048577) (h1:ci C i < 0→v= -1) (h2:0≤ci C i→A8 (Ci N C i) M=some v):RndP N n C (C'.set i v) M (i+1):=by
 refine ⟨by simp [h.len],fun j hj hji hn=>?_,fun j hj hji hp=>?_,h.idx,h.nodup,Nat.le_succ_of_le h.small,fun x hx=>?_⟩
 ·rw [KH h.len hi]
  split
  ·rename_i e;subst e;exact h1 hn
  ·exact h.neg j hj (by omega) hn
 ·rw [KH h.len hi]
  split
  ·rename_i e;subst e;exact h2 hp
  ·exact h.pos j hj (by omega) hp
 ·rcases List.mem_or_eq_of_mem_set hx with hx|rfl
  ·exact h.bnd x hx
  ·exact hv
theorem RndP.known (h:RndP N n C C' M i) (hi:i < n) (hn2:n≤1048576) (hp:0≤ci C i) {v:Int} (hl:A8 (Ci N C i) M=some v):RndP N n C (C'.set i v) M (i+1):=by
 refine h.put hi v ?_ (fun hn=>by omega) (fun _=>hl)
 obtain ⟨j,hj⟩:=Jf hl
 have:=(h.idx j _ hj).1
 have h2:=(List.getElem?_eq_some_iff.1 hj).1
 have h3:=h.small
 omega
theorem RndP.new (h:RndP N n C C' M i) (hi:i < n) (hn2:n≤1048576) (hp:0≤ci C i) (hl:A8 (Ci N C i) M=none):RndP N n C (C'.set i (M.length:Int)) (M++[(Ci N C i,(M.length:Int))]) (i+1):=by
 have h3:=h.small
 have hlk:∀a v,A8 a M=some v→A8 a (M++[(Ci N C i,(M.length:Int))])=some v:=fun a v e=>by rw [Hb,e];rfl
 refine ⟨by simp [h.len],fun j hj hji hn=>?_,fun j hj hji hp=>?_,fun j q hq=>?_,?_,by simp;omega,fun x hx=>?_⟩
 ·rw [KH h.len hi]
  split
  ·rename_i e;subst e;omega
  ·exact h.neg j hj (by omega) hn
 ·rw [KH h.len hi]
  split
  ·rename_i e
   subst e
   rw [Hb,hl]
   simp [A8]
  ·exact hlk _ _ (h.pos j hj (by omega) hp)
 ·rcases DN hq with hq|⟨rfl,rfl⟩
  ·exact h.idx j q hq
  ·exact ⟨rfl,i,hi,hp,rfl⟩
 ·rw [List.map_append]
  refine List.nodup_append.2 ⟨h.nodup,by simp,?_⟩
  intro a ha b hb
  simp at hb
  subst hb
  intro e
  subst e
  exact P9 hl ha
 ·rcases List.mem_or_eq_of_mem_set hx with hx|rfl
  ·exact h.bnd x hx
  ·omega
end
def ID (D F:List Bool) (i:Nat):Int:=if bt D i=false then -1 else if Dv F i then 1 else 0
theorem iO {N:List (List Int)} {F D:List Bool} {n:Nat} {C:List Int} (hD:∀i,i < n→(bt D i=true↔Bn N F i)) (hl:C.length=n) (hC:∀i,i < n→ci C i=ID D F i):Part N F n C:=by
 have hd:∀i,i < n→¬Bn N F i→bt D i=false:=fun i hi hn=>by
  cases h:bt D i with
  | false=>rfl
  | true=>exact absurd ((hD i hi).1 h) hn
 refine ⟨hl,fun i hi hn=>by rw [hC i hi];simp [ID,hd i hi hn],fun i hi ha=>?_,fun i j hi hj e=>?_,fun i j hi hj ha e=>?_⟩
 ·rw [hC i hi]
  have:=(hD i hi).2 ha
  simp only [ID,this]
  split
  ·rename_i h;cases h
  ·split<;>omega
 ·have h1:Bn N F i↔Bn N F j:=by rw [D6,D6,e]
  have h2:bt D i=bt D j:=by
   rw [Bool.eq_iff_iff,hD i hi,hD j hj,h1]
  have h3:Dv F i=Dv F j:=by
   have:=congrFun e []
   rwa [LV,LV] at this
  rw [hC i hi,hC j hj]
  unfold ID
  rw [h2,h3]
 ·rw [hC i hi,hC j hj] at e
  have h1:=(hD i hi).2 ha
  unfold ID at e
  cases hb:bt D j<;>cases h3:Dv F i<;>cases h4:Dv F j
  all_goals first|rfl|(exfalso;simp [h1,hb,h3,h4] at e)
theorem Po (l:List Int) (x:Int):List.take l.length (List.drop 0 (l.map (V.int .i64)))++List.take 1 (List.drop 0 [V.int .i64 x])=(l++[x]).map (V.int .i64):=by
 rw [List.drop_zero,List.take_of_length_le (by simp),List.map_append]
 rfl
theorem Pp (l:List Int) (x:Int):l.length+(List.take 1 (List.drop 0 [V.int .i64 x])).length=(l++[x]).length:=by
 rw [List.length_append]
 rfl
structure OInv (N:List (List Int)) (F:List Bool) (n:Nat) (A:List Int) (S:List Int) (M:List (Int×Int)) (W:List Int):Prop where
 binv:BInv (CY N F 0) (S.map fun s=>CY N F s.toNat) W
 st:∀s∈S,0≤s∧s < n
 len:M.length=S.length
 at':∀(j:Nat) (s:Int),S[j]?=some s→M[j]?=some (ci A s.toNat,(j:Int))
section
variable {N:List (List Int)} {F:List Bool} {n:Nat} {A S:List Int} {M:List (Int×Int)} {W:List Int}
theorem OInv.start (h:Cls N F n A) (h1:1≤n) (hl:0≤ci A 0):OInv N F n A [0] [(ci A 0,0)] [] where
 binv:=BInv.start (D6.1 (h.part.alive h1 hl))
 st:=fun s hs=>by simp at hs;subst hs;omega
 len:=rfl
 at':=fun j s hj=>by
  match j,hj with
  | 0,hj=>cases hj;rfl
  | j+1,hj=>simp at hj
theorem VS {α β:Type} {f:α→β} {l:List α} {j:Nat} {y:β} (h:(l.map f)[j]?=some y):∃x,l[j]?=some x∧f x=y:=by
 rw [List.getElem?_map,Option.map_eq_some_iff] at h
 exact h
theorem OInv.bound (h:OInv N F n A S M W):S.length≤n:=by
 have hnd:(S.map Int.toNat).Nodup:=by
  refine List.pairwise_iff_getElem.2 fun i j hi hj hij e=>?_
  simp only [List.length_map] at hi hj
  rw [List.getElem_map,List.getElem_map] at e
  have:=h.binv.nodup i j (CY N F (S[i]).toNat) (by rw [List.getElem?_map,List.getElem?_eq_getElem hi];rfl) (by rw [List.getElem?_map,List.getElem?_eq_getElem hj,e];rfl)
  omega
 have:=De n (S.map Int.toNat) hnd (fun x hx=>by
  obtain ⟨s,hs,rfl⟩:=List.mem_map.1 hx
  have:=h.st s hs
  omega)
 simpa using this
theorem OInv.look_some (h:OInv N F n A S M W) (hc:Cls N F n A) {t:Nat} (ht:t < n) {v:Int} (hl:A8 (ci A t) M=some v):∃j:Nat,v=j∧(S.map fun s=>CY N F s.toNat)[j]?=some (CY N F t):=by
 obtain ⟨j,hj⟩:=Jf hl
 obtain ⟨s,hs⟩:∃s,S[j]?=some s:=⟨_,List.getElem?_eq_getElem (by have:=(List.getElem?_eq_some_iff.1 hj).1;rw [h.len] at this;exact this)⟩
 have h2:=h.at' j s hs
 rw [hj] at h2
 simp only [Option.some.injEq,Prod.mk.injEq] at h2
 obtain ⟨h0,h1⟩:=h.st s (List.mem_of_getElem? hs)
 refine ⟨j,h2.2,?_⟩
 rw [List.getElem?_map,hs]
 exact congrArg some (hc.lng _ _ (by omega) ht h2.1.symm)
theorem OInv.look_none (h:OInv N F n A S M W) (hc:Cls N F n A) {t:Nat} (ht:t < n) (hl:A8 (ci A t) M=none):CY N F t∉S.map fun s=>CY N F s.toNat:=by
 intro hm
 obtain ⟨s,hs,e⟩:=List.mem_map.1 hm
 obtain ⟨j,hj⟩:=List.mem_iff_getElem?.1 hs
 obtain ⟨h0,h1⟩:=h.st s hs
 have hcc:=hc.part.same _ _ (by omega) ht e
 refine P9 hl (List.mem_map.2 ⟨_,List.mem_of_getElem? (h.at' j s hj),hcc⟩)
theorem OInv.dead (h:OInv N F n A S M W) (hw:WF n N F) (hc:Cls N F n A) {s:Int} {i c:Nat} (hs:S[i]?=some s) (hW:W.length=8*i+c) (hc8:c < 8) {x:Nat} (hx:Em N s.toNat c=x) (hd:ci A x < 0):OInv N F n A S M (W++[-1]):=by
 obtain ⟨h0,h1⟩:=h.st s (List.mem_of_getElem? hs)
 have e1:W.length / 8=i:=by omega
 have e2:W.length % 8=c:=by omega
 refine ⟨h.binv.put (L:=CY N F s.toNat) (by rw [e1,List.getElem?_map,hs];rfl) (.inl ⟨rfl,?_⟩),h.st,h.len,h.at'⟩
 rw [e2,←HX hc8,hx]
 refine Classical.byContradiction fun hn=>?_
 have hxn:x < n:=hx▸hw.nx (by omega) hc8
 have:=hc.part.pos x hxn (D6.2 hn)
 omega
theorem OInv.known (h:OInv N F n A S M W) (hw:WF n N F) (hc:Cls N F n A) {s:Int} {i c:Nat} (hs:S[i]?=some s) (hW:W.length=8*i+c) (hc8:c < 8) {x:Nat} (hx:Em N s.toNat c=x) {v:Int} (hl:A8 (ci A x) M=some v):OInv N F n A S M (W++[v]):=by
 obtain ⟨h0,h1⟩:=h.st s (List.mem_of_getElem? hs)
 have e1:W.length / 8=i:=by omega
 have e2:W.length % 8=c:=by omega
 have hxn:x < n:=hx▸hw.nx (by omega) hc8
 refine ⟨h.binv.put (L:=CY N F s.toNat) (by rw [e1,List.getElem?_map,hs];rfl) (.inr ?_),h.st,h.len,h.at'⟩
 rw [e2,←HX hc8,hx]
 exact h.look_some hc hxn hl
theorem OInv.new (h:OInv N F n A S M W) (hw:WF n N F) (hc:Cls N F n A) {s:Int} {i c:Nat} (hs:S[i]?=some s) (hW:W.length=8*i+c) (hc8:c < 8) {x:Int} (hx0:0≤x) (hx:Em N s.toNat c=x.toNat) (hp:0≤ci A x.toNat) (hl:A8 (ci A x.toNat) M=none):
 OInv N F n A (S++[x]) (M++[(ci A x.toNat,(S.length:Int))]) (W++[(S.length:Int)]):=by
 obtain ⟨h0,h1⟩:=h.st s (List.mem_of_getElem? hs)
 have e1:W.length / 8=i:=by omega
 have e2:W.length % 8=c:=by omega
 have hxn:x.toNat < n:=hx▸hw.nx (by omega) hc8
 have hg:=h.binv.grow (L:=CY N F s.toNat) (by rw [e1,List.getElem?_map,hs];rfl) (by rw [e2,←HX hc8,hx];exact h.look_none hc hxn hl) (by rw [e2,←HX hc8,hx];exact D6.1 (hc.part.alive hxn hp))
 rw [e2,←HX hc8,hx,List.length_map] at hg
 refine ⟨by rw [List.map_append];exact hg,fun y hy=>?_,by simp [h.len],fun j y hj=>?_⟩
 ·rcases List.mem_append.1 hy with hy|hy
  ·exact h.st y hy
  ·simp at hy;subst hy;omega
 ·rcases DN hj with hj|⟨rfl,rfl⟩
  ·exact Fl (h.at' j y hj)
  ·rw [List.getElem?_append_right (by rw [h.len];omega),h.len,Nat.sub_self]
   rfl
end
def iP (L0:Md) (r:V):Prop:=(JS L0∧r= .tup [.agg [.lst [AL (List.replicate 8 (-1))],.lst [.bool false]],.int .i64 0])∨
 ∃R G,CanonM L0 R G∧r=if R.length≤40 then .tup [.agg [.lst (R.map AL),.lst (G.map V.bool)],.int .i64 0] else .tup [.agg [.nils,.nils],.int .i64 1]
theorem OInv.canon {N:List (List Int)} {F:List Bool} {n:Nat} {A S:List Int} {M:List (Int×Int)} {R:List (List Int)} {G:List Bool} (h:OInv N F n A S M R.flatten) (hR:R.length=S.length) (h8:∀r∈R,r.length=8) (hG:G=S.map fun s=>Dv F s.toNat):CanonM (CY N F 0) R G:=by
 refine ⟨⟨_,⟨h.binv,?_⟩,?_⟩,h8⟩
 ·rw [List.length_map,←hR]
  clear h hR hG
  induction R with
  | nil=>rfl
  | cons r R ih=>
    have e:=ih (fun q hq=>h8 q (by simp [hq]))
    have e8:=h8 r (by simp)
    rw [List.flatten_cons,List.length_append,e,e8,List.length_cons]
    omega
 ·rw [hG,List.map_map]
  refine List.map_congr_left fun s _=>?_
  simp [LV]
structure WFp (n:Nat) (N:List (List Int)) (F:List Bool):Prop where
 lenN:N.length=n
 lenF:F.length=n
 rows:∀r∈N,r.length=8∧∀x∈r,-1≤x∧x < n
def aM (n:Nat) (x:Int):Int:=if x < 0 then (n:Int) else x
def Eh (n:Nat) (N:List (List Int)):List (List Int):=N.map (fun r=>r.map (aM n))++[List.replicate 8 (n:Int)]
def Dg (F:List Bool):List Bool:=F++[false]
def Ei (C:List Int):List Int:=C++[-1]
section
variable {n:Nat} {N:List (List Int)} {F:List Bool}
theorem WFp.get (h:WFp n N F) {i c:Nat} (hi:i < n) (hc:c < 8):∃(row:List Int) (x:Int),N[i]?=some row∧row.length=8∧row[c]?=some x∧-1≤x∧x < n∧Em (Eh n N) i c=(aM n x).toNat:=by
 obtain ⟨row,hrow⟩:∃b,N[i]?=some b:=⟨_,List.getElem?_eq_getElem (by rw [h.lenN];exact hi)⟩
 obtain ⟨h8,hx⟩:=h.rows row (List.mem_of_getElem? hrow)
 obtain ⟨x,hxc⟩:∃b,row[c]?=some b:=⟨_,List.getElem?_eq_getElem (by omega)⟩
 obtain ⟨h1,h2⟩:=hx x (List.mem_of_getElem? hxc)
 refine ⟨row,x,hrow,h8,hxc,h1,h2,?_⟩
 unfold Em Eh
 rw [List.getElem?_append_left (by rw [List.length_map,h.lenN];exact hi),List.getElem?_map,hrow]
 simp [hxc]
theorem WFp.wf (h:WFp n N F):WF (n+1) (Eh n N) (Dg F) where
 lenN:=by simp [Eh,h.lenN]
 lenF:=by simp [Dg,h.lenF]
 rows:=fun r hr=>by
  unfold Eh at hr
  rcases List.mem_append.1 hr with hr|hr
  ·obtain ⟨r0,hr0,rfl⟩:=List.mem_map.1 hr
   obtain ⟨h8,hx⟩:=h.rows r0 hr0
   refine ⟨by rw [List.length_map,h8],fun x hx'=>?_⟩
   obtain ⟨y,hy,rfl⟩:=List.mem_map.1 hx'
   have:=hx y hy
   unfold aM
   split<;>omega
  ·rw [List.mem_singleton] at hr
   subst hr
   refine ⟨by simp,fun x hx=>?_⟩
   rw [List.eq_of_mem_replicate hx]
   omega
theorem SN (hN:N.length=n) {c:Nat} (hc:c < 8):Em (Eh n N) n c=n:=by
 unfold Em Eh
 rw [List.getElem?_append_right (by rw [List.length_map,hN];exact Nat.le_refl _),List.length_map,hN,Nat.sub_self]
 show ((List.replicate 8 (n:Int))[c]?.getD 0).toNat=n
 rw [List.getElem?_replicate,if_pos hc]
 rfl
theorem T5 (h:F.length=n) {i:Nat} (hi:i < n):Dv (Dg F) i=Dv F i:=by
 unfold Dv Dg
 rw [List.getElem?_append_left (by omega)]
theorem aN (h:F.length=n):Dv (Dg F) n=false:=by
 unfold Dv Dg
 rw [List.getElem?_append_right (by omega),h,Nat.sub_self]
 rfl
theorem WFp.fin (h:WFp n N F) {i:Nat} (hi:i < n):F[i]?=some (Dv (Dg F) i):=by
 rw [T5 h.lenF hi]
 obtain ⟨b,hb⟩:∃b,F[i]?=some b:=⟨_,List.getElem?_eq_getElem (by rw [h.lenF];exact hi)⟩
 simp [Dv,hb]
theorem QU (h:F.length=n) {i:Nat} (hi:i < n):bt (Dg F) i=bt F i:=by
 unfold bt Dg
 rw [List.getElem?_append_left (by omega)]
theorem NN (h:F.length=n):bt (Dg F) n=false:=by
 unfold bt Dg
 rw [List.getElem?_append_right (by omega),h,Nat.sub_self]
 rfl
theorem dO (h:F.length=n) {i:Nat} (hi:i < n) (b:Bool):(Dg F).set i b=Dg (F.set i b):=by
 unfold Dg
 rw [List.set_append_left _ _ (by omega)]
theorem dP:(Dg F).length=F.length+1:=by simp [Dg]
theorem KX {C:List Int} (h:C.length=n) {i:Nat} (hi:i < n):ci (Ei C) i=ci C i:=by
 unfold ci Ei
 rw [List.getElem?_append_left (by omega)]
theorem Hg {C:List Int} (h:C.length=n):ci (Ei C) n= -1:=by
 unfold ci Ei
 rw [List.getElem?_append_right (by omega),h,Nat.sub_self]
 rfl
theorem eF {C:List Int} (h:C.length=n) {x:Int} (hx:-1≤x∧x < n):ci (Ei C) (aM n x).toNat=if x < 0 then -1 else ci C x.toNat:=by
 unfold aM
 split
 ·rw [Int.toNat_natCast];exact Hg h
 ·exact KX h (by omega)
theorem QV {C:List Int} (h:C.length=n) {i:Nat} (hi:i < n) (b:Int):(Ei C).set i b=Ei (C.set i b):=by
 unfold Ei
 rw [List.set_append_left _ _ (by omega)]
theorem dQ {C:List Int}:(Ei C).length=C.length+1:=by simp [Ei]
theorem Xa {D0 D:List Bool} {more:Bool} (hN:N.length=n) (hD:D.length=n) (h:LInv (Eh n N) (Dg F) (n+1) (Dg D0) (Dg D) more n 0):LInv (Eh n N) (Dg F) (n+1) (Dg D0) (Dg D) more (n+1) 0:=by
 refine ⟨h.lsd,h.so.imp (fun ⟨h1,h2,h3⟩=>⟨h1,h2,fun i' c' a d e f=>?_⟩) id⟩
 by_cases hi:i'=n
 ·subst hi
  rw [SN hN d,NN hD] at f
  cases f
 ·exact h3 i' c' a d (by omega) f
theorem T6 (A:List Int) (n:Nat):RndP (Eh n N) (n+1) A (Ei (List.replicate n 0)) [] 0:=
 ⟨by simp [Ei],fun j _ h=>by omega,fun j _ h=>by omega,fun j q h=>by simp at h,by simp,by simp,fun x hx=>by
   unfold Ei at hx
   rcases List.mem_append.1 hx with h|h
   ·rw [List.eq_of_mem_replicate h];omega
   ·rw [List.mem_singleton] at h;subst h;omega⟩
theorem Xb {A B:List Int} {M:List (List Int×Int)} (hA:A.length=n) (hB:B.length=n) (h:RndP (Eh n N) (n+1) (Ei A) (Ei B) M n):Rnd (Eh n N) (n+1) (Ei A) (Ei B) M:=by
 refine ⟨h.len,fun j hj hn=>?_,fun j hj hp=>?_,h.idx,h.nodup⟩
 ·by_cases hjn:j=n
  ·subst hjn;exact Hg hB
  ·exact h.neg j hj (by omega) hn
 ·by_cases hjn:j=n
  ·subst hjn;rw [Hg hA] at hp;omega
  ·exact h.pos j hj (by omega) hp
theorem Xc (hN:N.length=n) (hF:F.length=n):JS (CY (Eh n N) (Dg F) n):=by
 intro w
 unfold CY
 cases hb:w.all (fun c=>decide (c < 8)) with
 | false=>rfl
 | true=>
   have:∀w:List Nat,w.all (fun c=>decide (c < 8))=true→w.foldl (Em (Eh n N)) n=n:=by
    intro w
    induction w with
    | nil=>intro _;rfl
    | cons c w ih=>
      intro h
      rw [List.all_cons,Bool.and_eq_true,decide_eq_true_eq] at h
      rw [List.foldl_cons,SN hN h.1]
      exact ih h.2
   rw [this w hb,aN hF]
   rfl
theorem dR {A S:List Int} {M:List (Int×Int)} {W:List Int} (hN:N.length=n) (hF:F.length=n) (h:OInv (Eh n N) (Dg F) (n+1) A S M W):∀s∈S,0≤s∧s < n:=fun s hs=>by
 have h1:=h.st s hs
 refine ⟨h1.1,?_⟩
 by_cases e:s=n
 ·subst e
  exact absurd (Xc hN hF) (by have:=h.binv.live _ (List.mem_map.2 ⟨_,hs,rfl⟩);simpa using this)
 ·omega
end
set_option maxHeartbeats 16000000 in
theorem T2 {N:List (List Int)} {F:List Bool} {n:Nat} (h:WFp n N F) (hn2:n≤1048575):
 Fn1 Tryz.prog 84 [Dn N F] (fun r=>∃D:List Bool,r= .lst (D.map V.bool)∧D.length=n∧∀i,i < n+1→(bt (Dg D) i=true↔Bn (Eh n N) (Dg F) i)):=by
 have hNm:(N.map BV).length=N.length:=by simp
 have hFm:(F.map V.bool).length=F.length:=by simp
 have hNl:=h.lenN
 have hFl:=h.lenF
 have hnx:∀i c,i < n+1→c < 8→Em (Eh n N) i c < n+1:=fun i c hi hc=>h.wf.nx hi hc
 have hcl:=JX F (by omega)
 have hs0:Lsd (Eh n N) (Dg F) (n+1) (Dg F):=⟨by rw [dP,h.lenF],fun i hi e=>⟨[],by simp [Eq],by simpa [bt,Dv] using e⟩,fun i hi e=>by simpa [bt,Dv] using e⟩
 unfold Dn
 refine Ax Tryz.func84 fun C hC hE=>?_
 conv=>whnf
 repeat' (refine AY (Fz 1 (AH ?_));(conv=>whnf);refine Ig hcl hC FY 1 rfl ?_ rfl (A6 _) ?_;exact BA ⟨trivial,trivial⟩)<;>conv=>whnf
 refine Ab (fun ((D,more):List Bool×Bool)=>⟨46,[(1,.rp [.lst (N.map BV),.lst (F.map V.bool)]),(3,.sl 1 0 n),(4,.bool more)],[none,some (.row 1 (D.map V.bool))]⟩)
  (fun (D,more)=>D.length=n∧Lsd (Eh n N) (Dg F) (n+1) (Dg D)∧(more=false→∀i,i < n+1→(bt (Dg D) i=true↔Bn (Eh n N) (Dg F) i))) (fun (D,more)=>2*bH (Dg D)+more.toNat) (F,true) hE ?_ ⟨hFl,hs0,fun h=>by cases h⟩ ?_
 ·refine AK 0 (z:=2) (els:=[Dn N F]) rfl ⟨⟨trivial,trivial,trivial⟩,trivial⟩ (AP [1,3,4] ?_)
  conv=>whnf
  rw [AX _ _ (A6 F),hFl]
  rfl
 rintro ⟨D0,more⟩ ⟨hD0l,hS0,hmore⟩
 have hD0m:(D0.map V.bool).length=D0.length:=by simp
 cases more with
 | false=>
   conv=>whnf
   repeat' (first|refine DD (A4 1 2 [] rfl ?_ rfl ?_ rfl (AH ?_))|refine AC hE ?_<;>conv=>whnf)
   ·exact A6 D0
   ·omega
   ·exact ⟨rfl,D0,rfl,hD0l,hmore rfl⟩
 | true=>
   conv=>whnf
   repeat' intro hlen<;>conv=>whnf
   refine Ab (fun ((i,D,more):Nat×List Bool×Bool)=>⟨46,[(1,.rp [.lst (N.map BV),.lst (F.map V.bool)]),(3,.sl 1 0 n),(4,.bool more),(14,.lst (N.map BV)),(15,.int .i64 n),(16,.int .i64 i)],[none,some (.row 1 (D.map V.bool))]⟩)
    (fun (i,D,more)=>i≤n∧D.length=n∧LInv (Eh n N) (Dg F) (n+1) (Dg D0) (Dg D) more i 0) (fun (i,_,_)=>n - i) (0,D0,false) hE ?_ ⟨Nat.zero_le _,hD0l,LInv.start hS0⟩ ?_
   ·refine AP [1,3,4,14,15,16] ?_
    conv=>whnf
    rw [hNm,hNl]
    rfl
   rintro ⟨i,D,more⟩ ⟨hi,hDl,hI⟩
   by_cases hlt:i < n
   ·obtain ⟨row,hrow⟩:∃x,N[i]?=some x:=⟨_,List.getElem?_eq_getElem (by omega)⟩
    obtain ⟨h8,hxs⟩:=h.rows row (List.mem_of_getElem? hrow)
    obtain ⟨a0,a1,a2,a3,a4,a5,a6,a7,rfl⟩:=M6 h8
    have g1:=Mg hrow
    conv=>whnf
    repeat' (first|refine A2 ?_|refine AO ?_|refine Ad ?_)<;>conv=>whnf
    refine Ab (fun ((c,D,more):Nat×List Bool×Bool)=>⟨46,[(1,.rp [.lst (N.map BV),.lst (F.map V.bool)]),(3,.sl 1 0 n),(4,.bool more),(5,.int .i64 i),(14,.lst (N.map BV)),(15,.int .i64 n),(16,.int .i64 i),(21,BV [a0,a1,a2,a3,a4,a5,a6,a7]),(22,.int .i64 c)],[none,some (.row 1 (D.map V.bool))]⟩)
     (fun (c,D,more)=>c≤8∧D.length=n∧LInv (Eh n N) (Dg F) (n+1) (Dg D0) (Dg D) more i c) (fun (c,_,_)=>8 - c) (0,D,more) hE ?_ ⟨Nat.zero_le _,hDl,hI⟩ ?_
    ·refine EQ [1,3,4,5,14,15,16,21,22] [0] ?_
     conv=>whnf
     rw [AA _ (A6 D)]
     rfl
    clear hI hDl
    rintro ⟨c,D,more⟩ ⟨hc,hDl,hI⟩
    have hDm:(D.map V.bool).length=D.length:=by simp
    by_cases hc8:c < 8
    ·obtain ⟨row',x,hrow',_,hxc,hx0,hxn,ex⟩:=h.get hlt hc8
     rw [hrow] at hrow'
     cases hrow'
     have hpass:=fun hf=>hI.pass (by rw [ex];exact hf)
     have hi1:i < n+1:=by omega
     have hput:bt (Dg D) i=false→bt (Dg D) (aM n x).toNat=true→LInv (Eh n N) (Dg F) (n+1) (Dg D0) ((Dg D).set i true) true i (c+1):=fun hf hd=>hI.put hnx hi1 hc8 hf (by rw [ex];exact hd) (c+1)
     rw [dO hDl hlt,QU hDl hlt] at hput
     rw [QU hDl hlt] at hpass
     have hDs:(D.set i true).length=n:=by rw [List.length_set];exact hDl
     clear hI ex
     by_cases hxn:x < 0
     ·have hp:=hpass (.inl (by unfold aM;rw [if_pos hxn,Int.toNat_natCast];exact NN hDl))
      clear hpass hput
      obtain rfl|rfl|rfl|rfl|rfl|rfl|rfl|rfl:c=0∨c=1∨c=2∨c=3∨c=4∨c=5∨c=6∨c=7:=by omega
      all_goals simp only [List.getElem?_cons_zero,List.getElem?_cons_succ,Option.some.injEq] at hxc
      all_goals subst hxc
      all_goals
       conv=>whnf
       repeat' (first|refine A2 ?_|refine A1 ?_|refine AO ?_|refine AV ?_)<;>conv=>whnf
       refine AD [1,3,4,5,14,15,16,21,22] (_+1,D,more) ⟨?_,hDl,hp⟩ ?_ ?_
       ·omega
       ·show 8 - _ < 8 - _;omega
       conv=>whnf
       rfl
     have hxt:x.toNat < n:=by omega
     have e1:(aM n x).toNat=x.toNat:=by unfold aM;rw [if_neg hxn]
     rw [e1,QU hDl hxt] at hput hpass
     have g2:=Rg (KG hDl hxt)
     have g3:=R4 (KG hDl hlt)
     obtain ⟨bx,ebx⟩:∃b,bt D x.toNat=b:=⟨_,rfl⟩
     obtain ⟨bi,ebi⟩:∃b,bt D i=b:=⟨_,rfl⟩
     rw [ebx] at g2 hpass hput
     rw [ebi] at g3 hpass hput
     obtain rfl|rfl|rfl|rfl|rfl|rfl|rfl|rfl:c=0∨c=1∨c=2∨c=3∨c=4∨c=5∨c=6∨c=7:=by omega
     all_goals simp only [List.getElem?_cons_zero,List.getElem?_cons_succ,Option.some.injEq] at hxc
     all_goals subst hxc
     all_goals cases bx
     all_goals cases bi
     all_goals
      conv=>whnf
      repeat' (first|refine A2 ?_|refine AO ?_|refine AV ?_|refine Ad ?_)<;>conv=>whnf
      first
      | (refine AD [1,3,4,5,14,15,16,21,22] (_+1,D,more) ⟨?_,hDl,hpass (by first|exact .inl rfl|exact .inr rfl)⟩ ?_ ?_
         ·omega
         ·show 8 - _ < 8 - _;omega
         conv=>whnf
         rfl)
      | (refine AD [1,3,4,5,14,15,16,21,22] (_+1,D.set i true,true) ⟨?_,hDs,hput rfl rfl⟩ ?_ ?_
         ·omega
         ·show 8 - _ < 8 - _;omega
         conv=>whnf
         rw [Nat.zero_add,Int.toNat_natCast]
         show _=(⟨46,_,[none,some (.row 1 ((D.set i true).map V.bool))]⟩:ES)
         rw [List.map_set]
         rfl)
    ·obtain rfl:c=8:=by omega
     conv=>whnf
     repeat' (first|refine A1 ?_|refine AV ?_)<;>conv=>whnf
     refine AD [1,3,4,14,15,16] (i+1,D,more) ⟨hlt,hDl,hI.row (by omega)⟩ (by show n - (i+1) < n - i;omega) ?_
     conv=>whnf
     rfl
   ·conv=>whnf
    repeat' refine A1 ?_<;>conv=>whnf
    obtain rfl:i=n:=by omega
    have hI':=Xa hNl hDl hI
    refine AD [1,3,4] (D,more) ⟨hDl,hI.lsd,fun e=>by subst e;exact hI'.done (Nat.le_refl _) hnx⟩ ?_ ?_
    ·show 2*bH (Dg D)+more.toNat < 2*bH (Dg D0)+1
     rcases hI.so with ⟨rfl,e,_⟩|⟨rfl,h⟩
     ·rw [e];simp
     ·simp;omega
    conv=>whnf
end Go.Proofs.YtkaiffheakalmaaGreatDoor
