/- Copied, stripped. No conditions. -/
import Derived.Test.YtkaiffheakalmaaGreatDoorU9Awy
import Derived.Test.YtkaiffheakalmaaGreatDoorU9TlZi
import Derived.Test.YtkaiffheakalmaaGreatDoorU9TlZc
import Derived.Test.YtkaiffheakalmaaGreatDoorU9Data
import Derived.Handy
import Derived.Laws.AppendOwn
import Derived.Test.YtkaiffheakalmaaGreatDoorU9TlZb
set_option linter.unusedSimpArgs false
set_option linter.unusedVariables false
set_option maxRecDepth 100000
namespace Go.Proofs.YtkaiffheakalmaaGreatDoor
open Go.RowKit
theorem QU {C:Ctx} {f:FuncId} {xs:List V} {r0:V} {K:V→St→Prop} {σ:St} (id:Nat) {z:Nat} {els:List V} (hrow:σ.row id=some (z,els)) (hnr:BN els) (h:YT C f (An id els xs) (fun r=>r=r0)) (hx:BN (An id els xs)) (hs:Vn r0=true) (hk:K r0 σ):Ko C f xs K σ:=by
  intro a w vs ⟨I,bl,h1,h2,h3,h4⟩
  obtain ⟨bi,hb1,hb2,hb3,hb4⟩:=h4.obj id _ (DJ hrow)
  let I':Nat→Prop:=fun b=>I b∨bi.blk=some b
  let bl':Nat→Option BI:=fun k=>if k=id then none else bl k
  have hb:∀k,k≠id→bl' k=bl k:=fun k hk=>if_neg hk
  have hf:Frz w I I' bl bl' id els:=by
    refine ⟨fun b h=>.inl h,hb,?_,?_⟩
    . intro i b h1 h2
      rw [hb1] at h1
      simp only [Option.some.injEq] at h1
      subst h1
      refine ⟨.inr h2,fun k x hx=>by rw [hb2];exact hb3 k x hx,?_⟩
      rw [h2] at hb4
      obtain ⟨cur,e,hg,hsz,hc⟩:=hb4
      intro k x j c hx hxc
      obtain ⟨u,hu,h1',hr⟩:=hc k x j c hx hxc
      refine ⟨u,?_,h1',(hr.pr (Dy (Bw els k x hnr hx) j c hxc)).later (fun _ _=>rfl) (fun b h=>.inl h)⟩
      rw [hg.cell,hb2]
      exact hu
    . intro i h1 h2
      rw [hb1] at h1
      simp only [Option.some.injEq] at h1
      subst h1
      rw [h2] at hb4
      exact hb4
  have hI'lt:∀b,I' b→b < w.heap.size:=by
    rintro b (hb|hb)
    . exact (h4.imm b hb).1
    . exact (h4.own id bi b hb1 hb).1
  refine (h w I' vs h4.kept (by rw [As];exact h3.1) (fun i v x hv hx'=>?_) hI'lt).mono ?_
  . obtain ⟨y,hy,rfl⟩:=BU id els xs i x hx'
    exact ((h3.2 i v y hv hy).frz hf).pr (Bw _ i _ hx hx')
  rintro e w' ⟨v,r,I'',rfl,rfl,hpr,hI'',hkept⟩
  refine ⟨v,r,σ,rfl,hk,?_⟩
  have hsame:∀b,b < w.heap.size→w'.heap[b]?=w.heap[b]?:=fun b hb=>hkept.block b hb (fun h=>h)
  have hl:Later I w w':=⟨fun b hb=>hsame b (h4.imm b hb).1,fun b s hs=>by
    have hlt:b < w.heap.size:=by
      unfold World.shape? at hs
      split at hs
      . rename_i h;exact (Array.getElem?_eq_some_iff.1 h).1
      . cases hs
    rw [B0 (hsame b hlt)];exact hs⟩
  have hI:∀b,I b→I b:=fun b hb=>hb
  refine ⟨I,bl,h1,h2.later hl hI (fun _ _ h=>h),⟨rfl,fun i v' x hv hx'=>?_⟩,⟨fun id o ho=>(h4.obj id o ho).later hl hI (fun _ _ h=>h) (fun i b hb1 hb2=>hsame b (h4.own id i b hb1 hb2).1) (fun h=>h),h4.live,h4.apart,fun id i b hb1 hb2=>?_,fun k hk'=>?_,h4.kept.trans ⟨hkept.os,hkept.tape,hkept.output,hkept.size,fun k hk1 _=>hkept.block k hk1 (fun h=>h),hkept.shape⟩⟩⟩
  . cases i with
    | zero=>simp at hv hx';subst hv;subst hx';exact .pure _ _ (hpr.sc hs)
    | succ i=>simp at hv
  . obtain ⟨g1,g2,g3⟩:=h4.own id i b hb1 hb2
    exact ⟨Nat.lt_of_lt_of_le g1 hkept.size,g2,g3⟩
  . obtain ⟨g1,g2⟩:=h4.imm k hk'
    exact ⟨Nat.lt_of_lt_of_le g1 hkept.size,g2⟩
theorem F4 {C:Ctx} {P:Program} {fop:Operand} {args:List Operand} {f:FuncId} {xs xs':List V} {r:V} {K:V→ES→Prop} {σ:ES} (id:Nat) {z:Nat} {els:List V} (h:YT C f xs' (fun r'=>r'=r)) (hC:C.P=P) (hb:AD P f=true) (hr:σ.heap[id]?=some (some (.row z els))) (hnr:BN els) (hs:Vn r=true) (e:An id els xs=xs') (hn:Fw xs'=true) (he:B3 σ fop args=some (f,xs)) (hk:K r σ):CallN C fop args f xs K σ:=by
  subst hC
  subst e
  obtain ⟨caps,h1,h2⟩:=CE he
  refine ⟨Bg ?_⟩
  unfold EA
  rw [h1]
  simp only
  rw [h2]
  exact ⟨hb,QU id (z:=z) (els:=els) (by simp [St.row,ES.st,hr]) hnr h (FB _ hn) hs (Cv hk)⟩
theorem Xi {C:Ctx} {P:Program} {fop:Operand} {args:List Operand} {f:FuncId} {xs:List V} {R:V→Prop} {K:V→ES→Prop} {σ:ES} (h:YT C f xs R) (hC:C.P=P) (hb:AD P f=true) (he:B3 σ fop args=some (f,xs)) (hn:Fw xs=true) (hk:∀r,R r→K r σ):CallN C fop args f xs K σ:=by
  subst hC
  obtain ⟨caps,h1,h2⟩:=CE he
  refine ⟨Bg ?_⟩
  unfold EA
  rw [h1]
  simp only
  rw [h2]
  exact ⟨hb,Fa h (FB _ hn) fun r hr=>Cv (hk r hr)⟩
end Go.Proofs.YtkaiffheakalmaaGreatDoor
namespace Go.Proofs.YtkaiffheakalmaaGreatDoor
open Go.RowKit
structure RndP (N:List (List Int)) (n:Nat) (C C':List Int) (M:List (List Int×Int)) (i:Nat):Prop where
  len:C'.length=n
  neg:∀j,j < n→j < i→ci C j < 0→ci C' j= -1
  pos:∀j,j < n→j < i→0≤ci C j→Az (BP N C j) M=some (ci C' j)
  idx:∀(j:Nat) (q:List Int×Int),M[j]?=some q→q.2=(j:Int)∧∃i,i < n∧0≤ci C i∧q.1=BP N C i
  nodup:(M.map (·.1)).Nodup
  small:M.length≤i
  bnd:∀x∈C',-1≤x∧x≤1048577
theorem Gv {C:List Int} {n i:Nat} (h:C.length=n) (hi:i < n) (v:Int) (j:Nat):ci (C.set i v) j=if j=i then v else ci C j:=by
  unfold ci
  rw [List.getElem?_set]
  by_cases e:i=j
  . subst e;simp [h,hi]
  . rw [if_neg e,if_neg (Ne.symm e)]
theorem EE {C:List Int} {n i:Nat} (h:C.length=n) (hi:i < n):C[i]?=some (ci C i):=by
  obtain ⟨b,hb⟩:∃b,C[i]?=some b:=⟨_,List.getElem?_eq_getElem (by omega)⟩
  simp [ci,hb]
section
variable {N:List (List Int)} {n:Nat} {C C':List Int} {M:List (List Int×Int)} {i:Nat}
theorem RndP.start (n:Nat):RndP N n C (List.replicate n 0) [] 0:=⟨by simp,fun j _ h=>by omega,fun j _ h=>by omega,fun j q h=>by simp at h,by simp,by simp,fun x hx=>by rw [List.eq_of_mem_replicate hx];omega⟩
theorem RndP.full (h:RndP N n C C' M n):Rnd N n C C' M:=⟨h.len,fun j hj=>h.neg j hj hj,fun j hj=>h.pos j hj hj,h.idx,h.nodup⟩
theorem RndP.put (h:RndP N n C C' M i) (hi:i < n) (v:Int) (hv:-1≤v∧v≤1048577) (h1:ci C i < 0→v= -1) (h2:0≤ci C i→Az (BP N C i) M=some v):RndP N n C (C'.set i v) M (i+1):=by
  refine ⟨by simp [h.len],fun j hj hji hn=>?_,fun j hj hji hp=>?_,h.idx,h.nodup,Nat.le_succ_of_le h.small,fun x hx=>?_⟩
  . rw [Gv h.len hi]
    split
    . rename_i e;subst e;exact h1 hn
    . exact h.neg j hj (by omega) hn
  . rw [Gv h.len hi]
    split
    . rename_i e;subst e;exact h2 hp
    . exact h.pos j hj (by omega) hp
  . rcases List.mem_or_eq_of_mem_set hx with hx|rfl
    . exact h.bnd x hx
    . exact hv
theorem RndP.known (h:RndP N n C C' M i) (hi:i < n) (hn2:n≤1048576) (hp:0≤ci C i) {v:Int} (hl:Az (BP N C i) M=some v):RndP N n C (C'.set i v) M (i+1):=by
  refine h.put hi v ?_ (fun hn=>by omega) (fun _=>hl)
  obtain ⟨j,hj⟩:=Ie hl
  have:=(h.idx j _ hj).1
  have h2:=(List.getElem?_eq_some_iff.1 hj).1
  have h3:=h.small
  omega
theorem RndP.new (h:RndP N n C C' M i) (hi:i < n) (hn2:n≤1048576) (hp:0≤ci C i) (hl:Az (BP N C i) M=none):RndP N n C (C'.set i (M.length:Int)) (M++[(BP N C i,(M.length:Int))]) (i+1):=by
  have h3:=h.small
  have hlk:∀a v,Az a M=some v→Az a (M++[(BP N C i,(M.length:Int))])=some v:=fun a v e=>by rw [FE,e];rfl
  refine ⟨by simp [h.len],fun j hj hji hn=>?_,fun j hj hji hp=>?_,fun j q hq=>?_,?_,by simp;omega,fun x hx=>?_⟩
  . rw [Gv h.len hi]
    split
    . rename_i e;subst e;omega
    . exact h.neg j hj (by omega) hn
  . rw [Gv h.len hi]
    split
    . rename_i e
      subst e
      rw [FE,hl]
      simp [Az]
    . exact hlk _ _ (h.pos j hj (by omega) hp)
  . rcases C1 hq with hq|⟨rfl,rfl⟩
    . exact h.idx j q hq
    . exact ⟨rfl,i,hi,hp,rfl⟩
  . rw [List.map_append]
    refine List.nodup_append.2 ⟨h.nodup,by simp,?_⟩
    intro a ha b hb
    simp at hb
    subst hb
    intro e
    subst e
    exact OQ hl ha
  . rcases List.mem_or_eq_of_mem_set hx with hx|rfl
    . exact h.bnd x hx
    . omega
end
def EF (D F:List Bool) (i:Nat):Int:=if bt D i=false then -1 else if DW F i then 1 else 0
theorem cd {N:List (List Int)} {F D:List Bool} {n:Nat} {C:List Int} (hD:∀i,i < n→(bt D i=true↔Bf N F i)) (hl:C.length=n) (hC:∀i,i < n→ci C i=EF D F i):Part N F n C:=by
  have hd:∀i,i < n→¬Bf N F i→bt D i=false:=fun i hi hn=>by
    cases h:bt D i with
    | false=>rfl
    | true=>exact absurd ((hD i hi).1 h) hn
  refine ⟨hl,fun i hi hn=>by rw [hC i hi];simp [EF,hd i hi hn],fun i hi ha=>?_,fun i j hi hj e=>?_,fun i j hi hj ha e=>?_⟩
  . rw [hC i hi]
    have:=(hD i hi).2 ha
    simp only [EF,this]
    split
    . rename_i h;cases h
    . split<;>omega
  . have h1:Bf N F i↔Bf N F j:=by rw [Di,Di,e]
    have h2:bt D i=bt D j:=by
      rw [Bool.eq_iff_iff,hD i hi,hD j hj,h1]
    have h3:DW F i=DW F j:=by
      have:=congrFun e []
      rwa [KS,KS] at this
    rw [hC i hi,hC j hj]
    unfold EF
    rw [h2,h3]
  . rw [hC i hi,hC j hj] at e
    have h1:=(hD i hi).2 ha
    unfold EF at e
    cases hb:bt D j<;>cases h3:DW F i<;>cases h4:DW F j
    all_goals first|rfl|(exfalso;simp [h1,hb,h3,h4] at e)
theorem KT (l:List Int) (x:Int):List.take l.length (List.drop 0 (l.map (V.int .i64)))++List.take 1 (List.drop 0 [V.int .i64 x])=(l++[x]).map (V.int .i64):=by
  rw [List.drop_zero,List.take_of_length_le (by simp),List.map_append]
  rfl
theorem KU (l:List Int) (x:Int):l.length+(List.take 1 (List.drop 0 [V.int .i64 x])).length=(l++[x]).length:=by
  rw [List.length_append]
  rfl
set_option maxHeartbeats 16000000 in
theorem Zt {N:List (List Int)} {F:List Bool} {n:Nat} (h:WF n N F) (hn2:n≤1048576):
    Fn1G Tryz.prog GT 59 [Cb N F] (fun r=>∃C:List Int,r=AY C∧Cls N F n C):=by
  have hNm:(N.map A9).length=N.length:=by simp
  have hFm:(F.map V.bool).length=F.length:=by simp
  have hNl:=h.lenN
  have hFl:=h.lenF
  have hnx:∀i c,i < n→c < 8→Dh N i c < n:=fun i c hi hc=>h.nx hi hc
  have hlive:=U8 h hn2
  unfold Cb at hlive ⊢
  refine Gm (T:=Tryz.tt) Tryz.func59 rfl AR AB ?_ ?_ fun C hC hW hG hE=>?_
  . kernel_rfl
  . exact Nat.le_of_ble_eq_true (by kernel_rfl)
  conv=>whnf
  skip
  refine OH hlive hC Ma ?_ ?_ ?_
  . kernel_rfl
  . kernel_rfl
  intro r hr
  obtain ⟨D,rfl,hDl,hD⟩:=hr
  have hDm:(D.map V.bool).length=D.length:=by simp
  conv=>whnf
  repeat' (first|(refine Af (by first|assumption|omega) ?_;conv=>whnf)|(intro hlen;conv=>whnf))
  refine Ae (fun ((i,A):Nat×List Int)=>⟨117,[(1,.rp [.lst (N.map A9),.lst (F.map V.bool)]),(3,.lst (D.map V.bool)),(4,.sl 1 0 n),(25,.int .i64 n),(26,.int .i64 i)],[none,some (.row 1 (A.map (V.int .i64)))]⟩)
    (fun (i,A)=>i≤n∧A.length=n∧(∀x∈A,-1≤x∧x≤1048577)∧(∀j,j < i→ci A j=EF D F j)∧∀j,j < n→i≤j→ci A j=0) (fun (i,_)=>n - i) (0,List.replicate n 0) hE ?_ ?_ ⟨Nat.zero_le _,by simp,fun x hx=>by rw [List.eq_of_mem_replicate hx];omega,fun j hj=>by omega,fun j hj _=>by simp [ci,hj]⟩ ?_
  . kernel_rfl
  . refine AO 0 (z:=2) (els:=[Cb N F]) rfl ⟨⟨trivial,trivial,trivial⟩,trivial⟩ (AU [1,3,4,25,26] ?_)
    conv=>whnf
    rw [hNm,hNl,Int.toNat_natCast]
    show (⟨117,_,[none,some (.row 1 (An 0 [Cb N F] (List.replicate n (V.int .i64 0))))]⟩:ES)=⟨117,_,[none,some (.row 1 ((List.replicate n (0:Int)).map (V.int .i64)))]⟩
    rw [List.map_replicate,show List.replicate n (V.int .i64 0)=(List.replicate n (0:Int)).map (V.int .i64) by rw [List.map_replicate],AZ _ _ (AE _)]
    rfl
  rintro ⟨i,A⟩ ⟨hi,hAl,hAb,hA1,hA2⟩
  have hAm:(A.map (V.int .i64)).length=A.length:=by simp
  by_cases hlt:i < n
  . have g1:(D.map V.bool)[Int.toNat (i:Int)]?=some (.bool (bt D i)):=by rw [Int.toNat_natCast,List.getElem?_map,Hu hDl hlt];rfl
    have g2:(F.map V.bool)[Int.toNat (i:Int)]?=some (.bool (DW F i)):=by rw [Int.toNat_natCast,List.getElem?_map,h.fin hlt];rfl
    have g3:(A.map (V.int .i64))[0+Int.toNat (i:Int)]?=some (.int .i64 (ci A i)):=by rw [Nat.zero_add,Int.toNat_natCast,List.getElem?_map,EE hAl hlt];rfl
    have hset:∀v,v=EF D F i→(A.set i v).length=n∧(∀x∈A.set i v,-1≤x∧x≤1048577)∧(∀j,j < i+1→ci (A.set i v) j=EF D F j)∧∀j,j < n→i+1≤j→ci (A.set i v) j=0:=fun v hv=>by
      refine ⟨by simp [hAl],fun x hx=>?_,fun j hj=>?_,fun j hj hj2=>?_⟩
      . rcases List.mem_or_eq_of_mem_set hx with hx|rfl
        . exact hAb x hx
        . rw [hv]
          unfold EF
          split
          . omega
          . split<;>omega
      . rw [Gv hAl hlt]
        split
        . rename_i e;subst e;exact hv
        . exact hA1 j (by omega)
      . rw [Gv hAl hlt,if_neg (by omega)]
        exact hA2 j hj (by omega)
    have hkeep:EF D F i=0→A.set i 0=A:=fun _=>by
      apply List.ext_getElem?
      intro j
      rw [List.getElem?_set]
      split
      . rename_i e;subst e;rw [if_pos (by omega),EE hAl hlt,hA2 i hlt (Nat.le_refl _)]
      . rfl
    obtain ⟨bd,ebd⟩:∃b,bt D i=b:=⟨_,rfl⟩
    obtain ⟨bf,ebf⟩:∃b,DW F i=b:=⟨_,rfl⟩
    rw [ebd] at g1
    rw [ebf] at g2
    cases bd
    all_goals cases bf
    all_goals
      conv=>whnf
      repeat' (first|(refine AN (by first|assumption|omega) ?_;conv=>whnf)|(refine Af (by first|assumption|omega) ?_;conv=>whnf)|(refine AS (by omega) ?_;conv=>whnf)|(refine AQ (by assumption) ?_;conv=>whnf))
      first
      | (have hs:=hset 0 (by simp [EF,ebd,ebf])
         rw [hkeep (by simp [EF,ebd,ebf])] at hs
         refine AJ [1,3,4,25,26] (i+1,A) ⟨hlt,hs⟩ (by show n - (i+1) < n - i;omega) ?_
         conv=>whnf
         rfl)
      | (refine AJ [1,3,4,25,26] (i+1,A.set i (-1)) ⟨hlt,hset _ (by simp [EF,ebd])⟩ (by show n - (i+1) < n - i;omega) ?_
         conv=>whnf
         rw [Nat.zero_add,Int.toNat_natCast]
         show _=(⟨117,_,[none,some (.row 1 ((A.set i (-1)).map (V.int .i64)))]⟩:ES)
         rw [List.map_set]
         rfl)
      | (refine AJ [1,3,4,25,26] (i+1,A.set i 1) ⟨hlt,hset _ (by simp [EF,ebd,ebf])⟩ (by show n - (i+1) < n - i;omega) ?_
         conv=>whnf
         rw [Nat.zero_add,Int.toNat_natCast]
         show _=(⟨117,_,[none,some (.row 1 ((A.set i 1).map (V.int .i64)))]⟩:ES)
         rw [List.map_set]
         rfl)
  obtain rfl:n=i:=by omega
  have hpart:=cd hD hAl hA1
  conv=>whnf
  repeat' (refine AM (by first|assumption|omega) ?_;conv=>whnf)
  refine Ae (fun ((A,many):List Int×Nat)=>⟨117,[(1,.rp [.lst (N.map A9),.lst (F.map V.bool)]),(4,.sl 1 0 n),(6,.int .i64 many)],[none,some (.row 1 (A.map (V.int .i64)))]⟩)
    (fun (A,many)=>Part N F n A∧(∀x∈A,-1≤x∧x≤1048577)∧(many=0∨Xa n A many)∧many≤n) (fun (_,many)=>n+1 - many) (A,0) hE ?_ ?_ ⟨hpart,hAb,.inl rfl,Nat.zero_le _⟩ ?_
  . kernel_rfl
  . refine AU [1,4,6] ?_
    conv=>whnf
    try rfl
  clear hpart hA1 hA2 hAb hAl hAm hlt hi hD hDl hDm
  clear A
  rintro ⟨A,many⟩ ⟨hP,hAb,hmany,hmi⟩
  have hAl:=hP.len
  have hAm:(A.map (V.int .i64)).length=A.length:=by simp
  conv=>whnf
  repeat' (first|(refine Af (by first|assumption|omega) ?_;conv=>whnf)|(refine Ib ?_;conv=>whnf)|(intro hlen;conv=>whnf))
  refine Ae (fun ((i,M,B):Nat×List (List Int×Int)×List Int)=>⟨117,[(1,.rp [.lst (N.map A9),.lst (F.map V.bool)]),(4,.sl 1 0 n),(6,.int .i64 many),(7,.it 0),(8,.sl 2 0 n),(53,.lst (N.map A9)),(54,.int .i64 n),(55,.int .i64 i)],
      [some (H3 Es M),some (.row 1 (A.map (V.int .i64))),some (.row 1 (B.map (V.int .i64)))]⟩)
    (fun (i,M,B)=>i≤n∧RndP N n A B M i) (fun (i,_,_)=>n - i) (0,[],List.replicate n 0) hE ?_ ?_ ⟨Nat.zero_le _,RndP.start n⟩ ?_
  . kernel_rfl
  . refine AU [1,4,6,7,8,53,54,55] ?_
    conv=>whnf
    rw [hNm,hNl,Int.toNat_natCast]
    show (⟨117,_,[_,_,some (.row 1 (List.replicate n (V.int .i64 0)))]⟩:ES)=⟨117,_,[_,_,some (.row 1 ((List.replicate n (0:Int)).map (V.int .i64)))]⟩
    rw [List.map_replicate]
    rfl
  rintro ⟨i,M,B⟩ ⟨hi,hR⟩
  have hBl:=hR.len
  have hBm:(B.map (V.int .i64)).length=B.length:=by simp
  by_cases hlt:i < n
  . obtain ⟨row,hrow⟩:∃x,N[i]?=some x:=⟨_,List.getElem?_eq_getElem (by omega)⟩
    obtain ⟨h8,hxs⟩:=h.rows row (List.mem_of_getElem? hrow)
    obtain ⟨a0,a1,a2,a3,a4,a5,a6,a7,rfl⟩:=J7 h8
    have g1:=Im hrow
    have g2:(A.map (V.int .i64))[0+Int.toNat (i:Int)]?=some (.int .i64 (ci A i)):=by rw [Nat.zero_add,Int.toNat_natCast,List.getElem?_map,EE hAl hlt];rfl
    obtain ⟨y,hy⟩:∃y,B[i]?=some y:=⟨_,List.getElem?_eq_getElem (by omega)⟩
    have g3:(B.map (V.int .i64))[0+Int.toNat (i:Int)]?=some (.int .i64 y):=by rw [Nat.zero_add,Int.toNat_natCast,List.getElem?_map,hy];rfl
    by_cases hneg:ci A i < 0
    . have hput:=hR.put hlt (-1) ⟨by omega,by omega⟩ (fun _=>rfl) (fun hp=>by omega)
      conv=>whnf
      repeat' (first|(refine AN (by first|assumption|omega) ?_;conv=>whnf)|(refine Af (by first|assumption|omega) ?_;conv=>whnf)|(refine AS (by omega) ?_;conv=>whnf)|(refine AQ (by assumption) ?_;conv=>whnf))
      refine AL [1,4,6,7,8,53,54,55] [3] (i+1,M,B.set i (-1)) ⟨hlt,hput⟩ (by show n - (i+1) < n - i;omega) ?_
      conv=>whnf
      rw [Nat.zero_add,Int.toNat_natCast,←List.map_set,AA _ (AE _),AA _ (AE _)]
      rfl
    . conv=>whnf
      repeat' (first|(refine AN (by first|assumption|omega) ?_;conv=>whnf)|(refine AM (by first|assumption|omega) ?_;conv=>whnf)|(refine Af (by first|assumption|omega) ?_;conv=>whnf)|(refine AQ (by assumption) ?_;conv=>whnf))
      refine Ae (fun ((c,l):Nat×List Int)=>⟨117,[(1,.rp [.lst (N.map A9),.lst (F.map V.bool)]),(4,.sl 1 0 n),(6,.int .i64 many),(7,.it 0),(8,.sl 2 0 n),(9,.int .i64 i),(11,.sl 4 0 l.length),(53,.lst (N.map A9)),(54,.int .i64 n),(55,.int .i64 i),(73,A9 [a0,a1,a2,a3,a4,a5,a6,a7]),(74,.int .i64 c)],
          [some (H3 Es M),some (.row 1 (A.map (V.int .i64))),some (.row 1 (B.map (V.int .i64))),none,some (.row 1 (l.map (V.int .i64)))]⟩)
        (fun (c,l)=>c≤8∧l.length=c+1∧l=ci A i::(List.range c).map fun c=>ci A (Dh N i c)) (fun (c,_)=>8 - c) (0,[ci A i]) hE ?_ ?_ ⟨Nat.zero_le _,rfl,rfl⟩ ?_
      . kernel_rfl
      . refine DP [1,4,6,7,8,9,11,53,54,55,73,74] [3] ?_
        conv=>whnf
        rw [AA _ (AE A),AA _ (AE B)]
        rfl
      rintro ⟨c,l⟩ ⟨hc,hl1,hl⟩
      have hlm:(l.map (V.int .i64)).length=l.length:=by simp
      by_cases hc8:c < 8
      . obtain ⟨row',x,hrow',_,hxc,hx0,hxn,ex⟩:=h.get hlt hc8
        rw [hrow] at hrow'
        cases hrow'
        have hxt:x.toNat < n:=by omega
        have g4:(A.map (V.int .i64))[0+Int.toNat x]?=some (.int .i64 (ci A x.toNat)):=by rw [Nat.zero_add,List.getElem?_map,EE hAl hxt];rfl
        have hl':l++[ci A x.toNat]=ci A i::(List.range (c+1)).map fun c=>ci A (Dh N i c):=by
          rw [hl,List.range_succ,List.map_append,←ex]
          rfl
        have hl2:(l++[ci A x.toNat]).length=c+1+1:=by simp [hl1]
        clear ex hl
        obtain rfl|rfl|rfl|rfl|rfl|rfl|rfl|rfl:c=0∨c=1∨c=2∨c=3∨c=4∨c=5∨c=6∨c=7:=by omega
        all_goals simp only [List.getElem?_cons_zero,List.getElem?_cons_succ,Option.some.injEq] at hxc
        all_goals subst hxc
        all_goals
          conv=>whnf
          repeat' (first|(refine AN (by first|assumption|omega) ?_;conv=>whnf)|(refine Af (by first|assumption|omega) ?_;conv=>whnf)|(refine AS (by omega) ?_;conv=>whnf)|(refine AQ (by assumption) ?_;conv=>whnf)|(refine Af (Nat.le_refl 1) ?_;conv=>whnf)|(refine Af ⟨?_,?_,?_⟩ ?_;(simp<;>omega);(show _+1≤9223372036854775807;omega);(show (_+1)*_≤140737488355328;omega);conv=>whnf))
          refine AL [1,4,6,7,8,9,11,53,54,55,73,74] [3] (_+1,l++[_]) ⟨?_,hl2,hl'⟩ ?_ ?_
          . omega
          . show 8 - _ < 8 - _;omega
          conv=>whnf
          rw [KT,KU]
          simp only [AA _ (AE _)]
          rfl
      . obtain rfl:c=8:=by omega
        obtain rfl:l=BP N A i:=hl
        have hsb:∀x∈BP N A i,-9223372036854775808≤x∧x≤9223372036854775807:=by
          have hcb:∀j,j < n→-1≤ci A j∧ci A j≤1048577:=fun j hj=>hAb _ (List.mem_of_getElem? (EE hAl hj))
          intro x hx
          unfold BP at hx
          rcases List.mem_cons.1 hx with rfl|hx
          . have:=hcb i hlt;omega
          . obtain ⟨d,hd,rfl⟩:=List.mem_map.1 hx
            have:=hcb _ (hnx i d hlt (List.mem_range.1 hd));omega
        have hkw:=(Lq (BP N A i) (by omega) hsb).c hC hW DQ hG
        have hnn:0≤ci A i:=by omega
        cases hlk:Az (BP N A i) M with
        | some v=>
          have hput:=hR.known hlt hn2 hnn hlk
          conv=>whnf
          repeat' (first|(refine AM (by first|assumption|omega) ?_;conv=>whnf)|(refine Af (by first|assumption|omega) ?_;conv=>whnf)|(refine AS (by omega) ?_;conv=>whnf)|(refine AQ (by assumption) ?_;conv=>whnf)|(refine F4 4 hkw hC Cd rfl (AE _) rfl ?_ (by kernel_rfl) ?_ ?_;(show [(V.sl 4 0 (BP N A i).length).frz 4 ((BP N A i).map (V.int .i64))]=[AY (BP N A i)];rw [BY 4 _ (by simp)];rfl);kernel_rfl;conv=>whnf)|(refine Ep (kV:=Es) (kA:=Lo) (by rw [hC];exact key_ok) 0 M (BP N A i) v rfl rfl rfl hlk ?_;conv=>whnf)|(refine Fy (kV:=Es) (kA:=Lo) (by rw [hC];exact key_ok) 0 M (BP N A i) v rfl rfl rfl (by rw [hlk];rfl) ?_;conv=>whnf))
          refine AL [1,4,6,7,8,53,54,55] [4] (i+1,M,B.set i v) ⟨hlt,hput⟩ (by show n - (i+1) < n - i;omega) ?_
          conv=>whnf
          rw [Nat.zero_add,Int.toNat_natCast,←List.map_set]
          simp only [AA _ (AE _)]
          rfl
        | none=>
          have hput:=hR.new hlt hn2 hnn hlk
          conv=>whnf
          repeat' (first|(refine AM (by first|assumption|omega) ?_;conv=>whnf)|(refine Af (by first|assumption|omega) ?_;conv=>whnf)|(refine AS (by omega) ?_;conv=>whnf)|(refine AQ (by assumption) ?_;conv=>whnf)|(refine F4 4 hkw hC Cd rfl (AE _) rfl ?_ (by kernel_rfl) ?_ ?_;(show [(V.sl 4 0 (BP N A i).length).frz 4 ((BP N A i).map (V.int .i64))]=[AY (BP N A i)];rw [BY 4 _ (by simp)];rfl);kernel_rfl;conv=>whnf)|(refine Eq (kV:=Es) (kA:=Lo) (by rw [hC];exact key_ok) 0 M (BP N A i) rfl rfl rfl hlk ?_;conv=>whnf)|(refine KN (kV:=Es) 0 M rfl rfl (by rw [hC];exact ⟨_,_,key_ok.map.choose_spec.choose_spec.1⟩) ?_;conv=>whnf)|(refine Ic (kV:=Es) (kA:=Lo) (by rw [hC];exact key_ok) 0 M (BP N A i) M.length rfl rfl rfl rfl hlk ?_;conv=>whnf)|(refine Fy (kV:=Es) (kA:=Lo) (by rw [hC];exact key_ok) 0 (M++[(BP N A i,(M.length:Int))]) (BP N A i) M.length rfl rfl rfl (by rw [FE,hlk];simp [Az]) ?_;conv=>whnf))
          refine AL [1,4,6,7,8,53,54,55] [4] (i+1,M++[(BP N A i,(M.length:Int))],B.set i (M.length:Int)) ⟨hlt,hput⟩ (by show n - (i+1) < n - i;omega) ?_
          conv=>whnf
          rw [Nat.zero_add,Int.toNat_natCast,←List.map_set]
          simp only [AA _ (AE _)]
          rfl
  . obtain rfl:n=i:=by omega
    have hfull:=hR.full
    obtain ⟨m1,m2,m3⟩:=L5 hP hfull hmany
    obtain ⟨hP',hN'⟩:=Hv hnx hP hfull
    conv=>whnf
    repeat' (first|(refine AM (by first|assumption|omega) ?_;conv=>whnf)|(refine KN (kV:=Es) 0 M rfl rfl (by rw [hC];exact ⟨_,_,key_ok.map.choose_spec.choose_spec.1⟩) ?_;conv=>whnf)|(refine Ca (BM 2 2 [] rfl ?_ rfl ?_ rfl (AP ?_)))|(refine He (fun h=>?_) (fun h=>?_)<;>conv=>whnf)|(refine AH hE ?_;conv=>whnf))
    . exact AE B
    . omega
    . exact ⟨rfl,B,rfl,QP hnx hP hfull hmany (by omega)⟩
    . refine Bc 0 (Bc 1 (EO 2 1 (by decide) rfl rfl (AL [1,4,6] [] (B,M.length) ⟨hP',hR.bnd,.inr hN',m2⟩ ?_ ?_)))
      . show n+1 - M.length < n+1 - many
        omega
      conv=>whnf
      rw [AA _ (AE B),AA _ (AE B),EB _ _ (AE B)]
      rfl
end Go.Proofs.YtkaiffheakalmaaGreatDoor
namespace Go.Proofs.YtkaiffheakalmaaGreatDoor
open Go.RowKit
structure OInv (N:List (List Int)) (F:List Bool) (n:Nat) (A:List Int) (S:List Int) (M:List (Int×Int)) (W:List Int):Prop where
  binv:BInv (CH N F 0) (S.map fun s=>CH N F s.toNat) W
  st:∀s∈S,0≤s∧s < n
  len:M.length=S.length
  at':∀(j:Nat) (s:Int),S[j]?=some s→M[j]?=some (ci A s.toNat,(j:Int))
section
variable {N:List (List Int)} {F:List Bool} {n:Nat} {A S:List Int} {M:List (Int×Int)} {W:List Int}
theorem OInv.start (h:Cls N F n A) (h1:1≤n) (hl:0≤ci A 0):OInv N F n A [0] [(ci A 0,0)] [] where
  binv:=BInv.start (Di.1 (h.part.alive h1 hl))
  st:=fun s hs=>by simp at hs;subst hs;omega
  len:=rfl
  at':=fun j s hj=>by
    match j,hj with
    | 0,hj=>cases hj;rfl
    | j+1,hj=>simp at hj
theorem Tt {α β:Type} {f:α→β} {l:List α} {j:Nat} {y:β} (h:(l.map f)[j]?=some y):∃x,l[j]?=some x∧f x=y:=by
  rw [List.getElem?_map,Option.map_eq_some_iff] at h
  exact h
theorem OInv.bound (h:OInv N F n A S M W):S.length≤n:=by
  have hnd:(S.map Int.toNat).Nodup:=by
    refine List.pairwise_iff_getElem.2 fun i j hi hj hij e=>?_
    simp only [List.length_map] at hi hj
    rw [List.getElem_map,List.getElem_map] at e
    have:=h.binv.nodup i j (CH N F (S[i]).toNat) (by rw [List.getElem?_map,List.getElem?_eq_getElem hi];rfl) (by rw [List.getElem?_map,List.getElem?_eq_getElem hj,e];rfl)
    omega
  have:=DE n (S.map Int.toNat) hnd (fun x hx=>by
    obtain ⟨s,hs,rfl⟩:=List.mem_map.1 hx
    have:=h.st s hs
    omega)
  simpa using this
theorem OInv.look_some (h:OInv N F n A S M W) (hc:Cls N F n A) {t:Nat} (ht:t < n) {v:Int} (hl:Az (ci A t) M=some v):∃j:Nat,v=j∧(S.map fun s=>CH N F s.toNat)[j]?=some (CH N F t):=by
  obtain ⟨j,hj⟩:=Ie hl
  obtain ⟨s,hs⟩:∃s,S[j]?=some s:=⟨_,List.getElem?_eq_getElem (by have:=(List.getElem?_eq_some_iff.1 hj).1;rw [h.len] at this;exact this)⟩
  have h2:=h.at' j s hs
  rw [hj] at h2
  simp only [Option.some.injEq,Prod.mk.injEq] at h2
  obtain ⟨h0,h1⟩:=h.st s (List.mem_of_getElem? hs)
  refine ⟨j,h2.2,?_⟩
  rw [List.getElem?_map,hs]
  exact congrArg some (hc.lng _ _ (by omega) ht h2.1.symm)
theorem OInv.look_none (h:OInv N F n A S M W) (hc:Cls N F n A) {t:Nat} (ht:t < n) (hl:Az (ci A t) M=none):CH N F t∉S.map fun s=>CH N F s.toNat:=by
  intro hm
  obtain ⟨s,hs,e⟩:=List.mem_map.1 hm
  obtain ⟨j,hj⟩:=List.mem_iff_getElem?.1 hs
  obtain ⟨h0,h1⟩:=h.st s hs
  have hcc:=hc.part.same _ _ (by omega) ht e
  refine OQ hl (List.mem_map.2 ⟨_,List.mem_of_getElem? (h.at' j s hj),hcc⟩)
theorem OInv.dead (h:OInv N F n A S M W) (hw:WF n N F) (hc:Cls N F n A) {s:Int} {i c:Nat} (hs:S[i]?=some s) (hW:W.length=8*i+c) (hc8:c < 8) {x:Nat} (hx:Dh N s.toNat c=x) (hd:ci A x < 0):OInv N F n A S M (W++[-1]):=by
  obtain ⟨h0,h1⟩:=h.st s (List.mem_of_getElem? hs)
  have e1:W.length / 8=i:=by omega
  have e2:W.length % 8=c:=by omega
  refine ⟨h.binv.put (L:=CH N F s.toNat) (by rw [e1,List.getElem?_map,hs];rfl) (.inl ⟨rfl,?_⟩),h.st,h.len,h.at'⟩
  rw [e2,←Gt hc8,hx]
  refine Classical.byContradiction fun hn=>?_
  have hxn:x < n:=hx▸hw.nx (by omega) hc8
  have:=hc.part.pos x hxn (Di.2 hn)
  omega
theorem OInv.known (h:OInv N F n A S M W) (hw:WF n N F) (hc:Cls N F n A) {s:Int} {i c:Nat} (hs:S[i]?=some s) (hW:W.length=8*i+c) (hc8:c < 8) {x:Nat} (hx:Dh N s.toNat c=x) {v:Int} (hl:Az (ci A x) M=some v):OInv N F n A S M (W++[v]):=by
  obtain ⟨h0,h1⟩:=h.st s (List.mem_of_getElem? hs)
  have e1:W.length / 8=i:=by omega
  have e2:W.length % 8=c:=by omega
  have hxn:x < n:=hx▸hw.nx (by omega) hc8
  refine ⟨h.binv.put (L:=CH N F s.toNat) (by rw [e1,List.getElem?_map,hs];rfl) (.inr ?_),h.st,h.len,h.at'⟩
  rw [e2,←Gt hc8,hx]
  exact h.look_some hc hxn hl
theorem OInv.new (h:OInv N F n A S M W) (hw:WF n N F) (hc:Cls N F n A) {s:Int} {i c:Nat} (hs:S[i]?=some s) (hW:W.length=8*i+c) (hc8:c < 8) {x:Int} (hx0:0≤x) (hx:Dh N s.toNat c=x.toNat) (hp:0≤ci A x.toNat) (hl:Az (ci A x.toNat) M=none):
    OInv N F n A (S++[x]) (M++[(ci A x.toNat,(S.length:Int))]) (W++[(S.length:Int)]):=by
  obtain ⟨h0,h1⟩:=h.st s (List.mem_of_getElem? hs)
  have e1:W.length / 8=i:=by omega
  have e2:W.length % 8=c:=by omega
  have hxn:x.toNat < n:=hx▸hw.nx (by omega) hc8
  have hg:=h.binv.grow (L:=CH N F s.toNat) (by rw [e1,List.getElem?_map,hs];rfl) (by rw [e2,←Gt hc8,hx];exact h.look_none hc hxn hl) (by rw [e2,←Gt hc8,hx];exact Di.1 (hc.part.alive hxn hp))
  rw [e2,←Gt hc8,hx,List.length_map] at hg
  refine ⟨by rw [List.map_append];exact hg,fun y hy=>?_,by simp [h.len],fun j y hj=>?_⟩
  . rcases List.mem_append.1 hy with hy|hy
    . exact h.st y hy
    . simp at hy;subst hy;omega
  . rcases C1 hj with hj|⟨rfl,rfl⟩
    . exact FH (h.at' j y hj)
    . rw [List.getElem?_append_right (by rw [h.len];omega),h.len,Nat.sub_self]
      rfl
end
def gk (L0:L2) (r:V):Prop:=(Il L0∧r= .tup [.agg [.lst [AY (List.replicate 8 (-1))],.lst [.bool false]],.int .i64 0])∨
  ∃R G,CanonM L0 R G∧r=if R.length≤40 then .tup [.agg [.lst (R.map AY),.lst (G.map V.bool)],.int .i64 0] else .tup [.agg [.nils,.nils],.int .i64 1]
theorem OInv.canon {N:List (List Int)} {F:List Bool} {n:Nat} {A S:List Int} {M:List (Int×Int)} {R:List (List Int)} {G:List Bool} (h:OInv N F n A S M R.flatten) (hR:R.length=S.length) (h8:∀r∈R,r.length=8) (hG:G=S.map fun s=>DW F s.toNat):CanonM (CH N F 0) R G:=by
  refine ⟨⟨_,⟨h.binv,?_⟩,?_⟩,h8⟩
  . rw [List.length_map,←hR]
    clear h hR hG
    induction R with
    | nil=>rfl
    | cons r R ih=>
      have e:=ih (fun q hq=>h8 q (by simp [hq]))
      have e8:=h8 r (by simp)
      rw [List.flatten_cons,List.length_append,e,e8,List.length_cons]
      omega
  . rw [hG,List.map_map]
    refine List.map_congr_left fun s _=>?_
    simp [KS]
end Go.Proofs.YtkaiffheakalmaaGreatDoor
namespace Go.Proofs.YtkaiffheakalmaaGreatDoor
open Go.RowKit
structure WFp (n:Nat) (N:List (List Int)) (F:List Bool):Prop where
  lenN:N.length=n
  lenF:F.length=n
  rows:∀r∈N,r.length=8∧∀x∈r,-1≤x∧x < n
def Xj (n:Nat) (x:Int):Int:=if x < 0 then (n:Int) else x
def D3 (n:Nat) (N:List (List Int)):List (List Int):=N.map (fun r=>r.map (Xj n))++[List.replicate 8 (n:Int)]
def DG (F:List Bool):List Bool:=F++[false]
def D4 (C:List Int):List Int:=C++[-1]
section
variable {n:Nat} {N:List (List Int)} {F:List Bool}
theorem WFp.get (h:WFp n N F) {i c:Nat} (hi:i < n) (hc:c < 8):∃(row:List Int) (x:Int),N[i]?=some row∧row.length=8∧row[c]?=some x∧-1≤x∧x < n∧Dh (D3 n N) i c=(Xj n x).toNat:=by
  obtain ⟨row,hrow⟩:∃b,N[i]?=some b:=⟨_,List.getElem?_eq_getElem (by rw [h.lenN];exact hi)⟩
  obtain ⟨h8,hx⟩:=h.rows row (List.mem_of_getElem? hrow)
  obtain ⟨x,hxc⟩:∃b,row[c]?=some b:=⟨_,List.getElem?_eq_getElem (by omega)⟩
  obtain ⟨h1,h2⟩:=hx x (List.mem_of_getElem? hxc)
  refine ⟨row,x,hrow,h8,hxc,h1,h2,?_⟩
  unfold Dh D3
  rw [List.getElem?_append_left (by rw [List.length_map,h.lenN];exact hi),List.getElem?_map,hrow]
  simp [hxc]
theorem WFp.wf (h:WFp n N F):WF (n+1) (D3 n N) (DG F) where
  lenN:=by simp [D3,h.lenN]
  lenF:=by simp [DG,h.lenF]
  rows:=fun r hr=>by
    unfold D3 at hr
    rcases List.mem_append.1 hr with hr|hr
    . obtain ⟨r0,hr0,rfl⟩:=List.mem_map.1 hr
      obtain ⟨h8,hx⟩:=h.rows r0 hr0
      refine ⟨by rw [List.length_map,h8],fun x hx'=>?_⟩
      obtain ⟨y,hy,rfl⟩:=List.mem_map.1 hx'
      have:=hx y hy
      unfold Xj
      split<;>omega
    . rw [List.mem_singleton] at hr
      subst hr
      refine ⟨by simp,fun x hx=>?_⟩
      rw [List.eq_of_mem_replicate hx]
      omega
theorem QV (hN:N.length=n) {c:Nat} (hc:c < 8):Dh (D3 n N) n c=n:=by
  unfold Dh D3
  rw [List.getElem?_append_right (by rw [List.length_map,hN];exact Nat.le_refl _),List.length_map,hN,Nat.sub_self]
  show ((List.replicate 8 (n:Int))[c]?.getD 0).toNat=n
  rw [List.getElem?_replicate,if_pos hc]
  rfl
theorem Ru (h:F.length=n) {i:Nat} (hi:i < n):DW (DG F) i=DW F i:=by
  unfold DW DG
  rw [List.getElem?_append_left (by omega)]
theorem Xk (h:F.length=n):DW (DG F) n=false:=by
  unfold DW DG
  rw [List.getElem?_append_right (by omega),h,Nat.sub_self]
  rfl
theorem WFp.fin (h:WFp n N F) {i:Nat} (hi:i < n):F[i]?=some (DW (DG F) i):=by
  rw [Ru h.lenF hi]
  obtain ⟨b,hb⟩:∃b,F[i]?=some b:=⟨_,List.getElem?_eq_getElem (by rw [h.lenF];exact hi)⟩
  simp [DW,hb]
theorem Ok (h:F.length=n) {i:Nat} (hi:i < n):bt (DG F) i=bt F i:=by
  unfold bt DG
  rw [List.getElem?_append_left (by omega)]
theorem L6 (h:F.length=n):bt (DG F) n=false:=by
  unfold bt DG
  rw [List.getElem?_append_right (by omega),h,Nat.sub_self]
  rfl
theorem Zu (h:F.length=n) {i:Nat} (hi:i < n) (b:Bool):(DG F).set i b=DG (F.set i b):=by
  unfold DG
  rw [List.set_append_left _ _ (by omega)]
theorem Zv:(DG F).length=F.length+1:=by simp [DG]
theorem JW {C:List Int} (h:C.length=n) {i:Nat} (hi:i < n):ci (D4 C) i=ci C i:=by
  unfold ci D4
  rw [List.getElem?_append_left (by omega)]
theorem Gw {C:List Int} (h:C.length=n):ci (D4 C) n= -1:=by
  unfold ci D4
  rw [List.getElem?_append_right (by omega),h,Nat.sub_self]
  rfl
theorem ce {C:List Int} (h:C.length=n) {x:Int} (hx:-1≤x∧x < n):ci (D4 C) (Xj n x).toNat=if x < 0 then -1 else ci C x.toNat:=by
  unfold Xj
  split
  . rw [Int.toNat_natCast];exact Gw h
  . exact JW h (by omega)
theorem Ol {C:List Int} (h:C.length=n) {i:Nat} (hi:i < n) (b:Int):(D4 C).set i b=D4 (C.set i b):=by
  unfold D4
  rw [List.set_append_left _ _ (by omega)]
theorem Zw {C:List Int}:(D4 C).length=C.length+1:=by simp [D4]
theorem VC {D0 D:List Bool} {more:Bool} (hN:N.length=n) (hD:D.length=n) (h:LInv (D3 n N) (DG F) (n+1) (DG D0) (DG D) more n 0):LInv (D3 n N) (DG F) (n+1) (DG D0) (DG D) more (n+1) 0:=by
  refine ⟨h.lsd,h.so.imp (fun ⟨h1,h2,h3⟩=>⟨h1,h2,fun i' c' a d e f=>?_⟩) id⟩
  by_cases hi:i'=n
  . subst hi
    rw [QV hN d,L6 hD] at f
    cases f
  . exact h3 i' c' a d (by omega) f
theorem Rv (A:List Int) (n:Nat):RndP (D3 n N) (n+1) A (D4 (List.replicate n 0)) [] 0:=
  ⟨by simp [D4],fun j _ h=>by omega,fun j _ h=>by omega,fun j q h=>by simp at h,by simp,by simp,fun x hx=>by
    unfold D4 at hx
    rcases List.mem_append.1 hx with h|h
    . rw [List.eq_of_mem_replicate h];omega
    . rw [List.mem_singleton] at h;subst h;omega⟩
theorem VD {A B:List Int} {M:List (List Int×Int)} (hA:A.length=n) (hB:B.length=n) (h:RndP (D3 n N) (n+1) (D4 A) (D4 B) M n):Rnd (D3 n N) (n+1) (D4 A) (D4 B) M:=by
  refine ⟨h.len,fun j hj hn=>?_,fun j hj hp=>?_,h.idx,h.nodup⟩
  . by_cases hjn:j=n
    . subst hjn;exact Gw hB
    . exact h.neg j hj (by omega) hn
  . by_cases hjn:j=n
    . subst hjn;rw [Gw hA] at hp;omega
    . exact h.pos j hj (by omega) hp
theorem VE (hN:N.length=n) (hF:F.length=n):Il (CH (D3 n N) (DG F) n):=by
  intro w
  unfold CH
  cases hb:w.all (fun c=>decide (c < 8)) with
  | false=>rfl
  | true=>
    have:∀w:List Nat,w.all (fun c=>decide (c < 8))=true→w.foldl (Dh (D3 n N)) n=n:=by
      intro w
      induction w with
      | nil=>intro _;rfl
      | cons c w ih=>
        intro h
        rw [List.all_cons,Bool.and_eq_true,decide_eq_true_eq] at h
        rw [List.foldl_cons,QV hN h.1]
        exact ih h.2
    rw [this w hb,Xk hF]
    rfl
theorem Zx {A S:List Int} {M:List (Int×Int)} {W:List Int} (hN:N.length=n) (hF:F.length=n) (h:OInv (D3 n N) (DG F) (n+1) A S M W):∀s∈S,0≤s∧s < n:=fun s hs=>by
  have h1:=h.st s hs
  refine ⟨h1.1,?_⟩
  by_cases e:s=n
  . subst e
    exact absurd (VE hN hF) (by have:=h.binv.live _ (List.mem_map.2 ⟨_,hs,rfl⟩);simpa using this)
  . omega
end
end Go.Proofs.YtkaiffheakalmaaGreatDoor
namespace Go.Proofs.YtkaiffheakalmaaGreatDoor
open Go.RowKit
set_option maxHeartbeats 16000000 in
theorem Rw {N:List (List Int)} {F:List Bool} {n:Nat} (h:WFp n N F) (hn2:n≤1048575):
    Fn1 Tryz.prog 84 [Cb N F] (fun r=>∃D:List Bool,r= .lst (D.map V.bool)∧D.length=n∧∀i,i < n+1→(bt (DG D) i=true↔Bf (D3 n N) (DG F) i)):=by
  have hNm:(N.map A9).length=N.length:=by simp
  have hFm:(F.map V.bool).length=F.length:=by simp
  have hNl:=h.lenN
  have hFl:=h.lenF
  have hnx:∀i c,i < n+1→c < 8→Dh (D3 n N) i c < n+1:=fun i c hi hc=>h.wf.nx hi hc
  have hcl:=IW F (by omega)
  have hs0:Lsd (D3 n N) (DG F) (n+1) (DG F):=⟨by rw [Zv,h.lenF],fun i hi e=>⟨[],by simp [EC],by simpa [bt,DW] using e⟩,fun i hi e=>by simpa [bt,DW] using e⟩
  unfold Cb
  refine A4 (T:=Tryz.tt) Tryz.func84 rfl AR AB ?_ ?_ fun C hC hE=>?_
  . kernel_rfl
  . exact Nat.le_of_ble_eq_true (by kernel_rfl)
  conv=>whnf
  repeat' (refine Ak (FT 1 (AP ?_));(conv=>whnf);refine Hq hcl hC E3 1 rfl ?_ rfl (A3 _) ?_;exact A6 ⟨trivial,trivial⟩;conv=>whnf)
  refine Ae (fun ((D,more):List Bool×Bool)=>⟨46,[(1,.rp [.lst (N.map A9),.lst (F.map V.bool)]),(3,.sl 1 0 n),(4,.bool more)],[none,some (.row 1 (D.map V.bool))]⟩)
    (fun (D,more)=>D.length=n∧Lsd (D3 n N) (DG F) (n+1) (DG D)∧(more=false→∀i,i < n+1→(bt (DG D) i=true↔Bf (D3 n N) (DG F) i))) (fun (D,more)=>2*YW (DG D)+more.toNat) (F,true) hE ?_ ?_ ⟨hFl,hs0,fun h=>by cases h⟩ ?_
  . kernel_rfl
  . refine AO 0 (z:=2) (els:=[Cb N F]) rfl ⟨⟨trivial,trivial,trivial⟩,trivial⟩ (AU [1,3,4] ?_)
    conv=>whnf
    rw [AZ _ _ (A3 F),hFl]
    rfl
  rintro ⟨D0,more⟩ ⟨hD0l,hS0,hmore⟩
  have hD0m:(D0.map V.bool).length=D0.length:=by simp
  cases more with
  | false=>
    conv=>whnf
    repeat' (first|(refine Ca (BM 1 2 [] rfl ?_ rfl ?_ rfl (AP ?_)))|(refine AH hE ?_;conv=>whnf))
    . exact A3 D0
    . omega
    . exact ⟨rfl,D0,rfl,hD0l,hmore rfl⟩
  | true=>
    conv=>whnf
    repeat' (intro hlen;conv=>whnf)
    refine Ae (fun ((i,D,more):Nat×List Bool×Bool)=>⟨46,[(1,.rp [.lst (N.map A9),.lst (F.map V.bool)]),(3,.sl 1 0 n),(4,.bool more),(14,.lst (N.map A9)),(15,.int .i64 n),(16,.int .i64 i)],[none,some (.row 1 (D.map V.bool))]⟩)
      (fun (i,D,more)=>i≤n∧D.length=n∧LInv (D3 n N) (DG F) (n+1) (DG D0) (DG D) more i 0) (fun (i,_,_)=>n - i) (0,D0,false) hE ?_ ?_ ⟨Nat.zero_le _,hD0l,LInv.start hS0⟩ ?_
    . kernel_rfl
    . refine AU [1,3,4,14,15,16] ?_
      conv=>whnf
      rw [hNm,hNl]
      rfl
    rintro ⟨i,D,more⟩ ⟨hi,hDl,hI⟩
    by_cases hlt:i < n
    . obtain ⟨row,hrow⟩:∃x,N[i]?=some x:=⟨_,List.getElem?_eq_getElem (by omega)⟩
      obtain ⟨h8,hxs⟩:=h.rows row (List.mem_of_getElem? hrow)
      obtain ⟨a0,a1,a2,a3,a4,a5,a6,a7,rfl⟩:=J7 h8
      have g1:=Im hrow
      conv=>whnf
      repeat' (first|(refine AN (by first|assumption|omega) ?_;conv=>whnf)|(refine Af (by first|assumption|omega) ?_;conv=>whnf)|(refine AQ (by assumption) ?_;conv=>whnf))
      refine Ae (fun ((c,D,more):Nat×List Bool×Bool)=>⟨46,[(1,.rp [.lst (N.map A9),.lst (F.map V.bool)]),(3,.sl 1 0 n),(4,.bool more),(5,.int .i64 i),(14,.lst (N.map A9)),(15,.int .i64 n),(16,.int .i64 i),(21,A9 [a0,a1,a2,a3,a4,a5,a6,a7]),(22,.int .i64 c)],[none,some (.row 1 (D.map V.bool))]⟩)
        (fun (c,D,more)=>c≤8∧D.length=n∧LInv (D3 n N) (DG F) (n+1) (DG D0) (DG D) more i c) (fun (c,_,_)=>8 - c) (0,D,more) hE ?_ ?_ ⟨Nat.zero_le _,hDl,hI⟩ ?_
      . kernel_rfl
      . refine DP [1,3,4,5,14,15,16,21,22] [0] ?_
        conv=>whnf
        rw [AA _ (A3 D)]
        rfl
      clear hI hDl
      rintro ⟨c,D,more⟩ ⟨hc,hDl,hI⟩
      have hDm:(D.map V.bool).length=D.length:=by simp
      by_cases hc8:c < 8
      . obtain ⟨row',x,hrow',_,hxc,hx0,hxn,ex⟩:=h.get hlt hc8
        rw [hrow] at hrow'
        cases hrow'
        have hpass:=fun hf=>hI.pass (by rw [ex];exact hf)
        have hi1:i < n+1:=by omega
        have hput:bt (DG D) i=false→bt (DG D) (Xj n x).toNat=true→LInv (D3 n N) (DG F) (n+1) (DG D0) ((DG D).set i true) true i (c+1):=fun hf hd=>hI.put hnx hi1 hc8 hf (by rw [ex];exact hd) (c+1)
        rw [Zu hDl hlt,Ok hDl hlt] at hput
        rw [Ok hDl hlt] at hpass
        have hDs:(D.set i true).length=n:=by rw [List.length_set];exact hDl
        clear hI ex
        by_cases hxn:x < 0
        . have hp:=hpass (.inl (by unfold Xj;rw [if_pos hxn,Int.toNat_natCast];exact L6 hDl))
          clear hpass hput
          obtain rfl|rfl|rfl|rfl|rfl|rfl|rfl|rfl:c=0∨c=1∨c=2∨c=3∨c=4∨c=5∨c=6∨c=7:=by omega
          all_goals simp only [List.getElem?_cons_zero,List.getElem?_cons_succ,Option.some.injEq] at hxc
          all_goals subst hxc
          all_goals
            conv=>whnf
            repeat' (first|(refine AN (by first|assumption|omega) ?_;conv=>whnf)|(refine AM (by first|assumption|omega) ?_;conv=>whnf)|(refine Af (by first|assumption|omega) ?_;conv=>whnf)|(refine AS (by omega) ?_;conv=>whnf))
            refine AJ [1,3,4,5,14,15,16,21,22] (_+1,D,more) ⟨?_,hDl,hp⟩ ?_ ?_
            . omega
            . show 8 - _ < 8 - _;omega
            conv=>whnf
            rfl
        have hxt:x.toNat < n:=by omega
        have e1:(Xj n x).toNat=x.toNat:=by unfold Xj;rw [if_neg hxn]
        rw [e1,Ok hDl hxt] at hput hpass
        have g2:=QR (Hu hDl hxt)
        have g3:=QQ (Hu hDl hlt)
        obtain ⟨bx,ebx⟩:∃b,bt D x.toNat=b:=⟨_,rfl⟩
        obtain ⟨bi,ebi⟩:∃b,bt D i=b:=⟨_,rfl⟩
        rw [ebx] at g2 hpass hput
        rw [ebi] at g3 hpass hput
        obtain rfl|rfl|rfl|rfl|rfl|rfl|rfl|rfl:c=0∨c=1∨c=2∨c=3∨c=4∨c=5∨c=6∨c=7:=by omega
        all_goals simp only [List.getElem?_cons_zero,List.getElem?_cons_succ,Option.some.injEq] at hxc
        all_goals subst hxc
        all_goals cases bx
        all_goals cases bi
        all_goals
          conv=>whnf
          repeat' (first|(refine AN (by first|assumption|omega) ?_;conv=>whnf)|(refine Af (by first|assumption|omega) ?_;conv=>whnf)|(refine AS (by omega) ?_;conv=>whnf)|(refine AQ (by assumption) ?_;conv=>whnf))
          first
          | (refine AJ [1,3,4,5,14,15,16,21,22] (_+1,D,more) ⟨?_,hDl,hpass (by first|exact .inl rfl|exact .inr rfl)⟩ ?_ ?_
             . omega
             . show 8 - _ < 8 - _;omega
             conv=>whnf
             rfl)
          | (refine AJ [1,3,4,5,14,15,16,21,22] (_+1,D.set i true,true) ⟨?_,hDs,hput rfl rfl⟩ ?_ ?_
             . omega
             . show 8 - _ < 8 - _;omega
             conv=>whnf
             rw [Nat.zero_add,Int.toNat_natCast]
             show _=(⟨46,_,[none,some (.row 1 ((D.set i true).map V.bool))]⟩:ES)
             rw [List.map_set]
             rfl)
      . obtain rfl:c=8:=by omega
        conv=>whnf
        repeat' (first|(refine AM (by first|assumption|omega) ?_;conv=>whnf)|(refine AS (by omega) ?_;conv=>whnf))
        refine AJ [1,3,4,14,15,16] (i+1,D,more) ⟨hlt,hDl,hI.row (by omega)⟩ (by show n - (i+1) < n - i;omega) ?_
        conv=>whnf
        rfl
    . conv=>whnf
      repeat' (refine AM (by first|assumption|omega) ?_;conv=>whnf)
      obtain rfl:i=n:=by omega
      have hI':=VC hNl hDl hI
      refine AJ [1,3,4] (D,more) ⟨hDl,hI.lsd,fun e=>by subst e;exact hI'.done (Nat.le_refl _) hnx⟩ ?_ ?_
      . show 2*YW (DG D)+more.toNat < 2*YW (DG D0)+1
        rcases hI.so with ⟨rfl,e,_⟩|⟨rfl,h⟩
        . rw [e];simp
        . simp;omega
      conv=>whnf
end Go.Proofs.YtkaiffheakalmaaGreatDoor
namespace Go.Proofs.YtkaiffheakalmaaGreatDoor
open Go.RowKit
set_option maxHeartbeats 16000000 in
theorem Ms {N:List (List Int)} {F:List Bool} {n:Nat} (h:WFp n N F) (hn2:n≤1048575):
    Fn1G Tryz.prog GT 59 [Cb N F] (fun r=>∃C:List Int,r=AY C∧C.length=n∧Cls (D3 n N) (DG F) (n+1) (D4 C)):=by
  have hNm:(N.map A9).length=N.length:=by simp
  have hFm:(F.map V.bool).length=F.length:=by simp
  have hNl:=h.lenN
  have hFl:=h.lenF
  have hnx:∀i c,i < n+1→c < 8→Dh (D3 n N) i c < n+1:=fun i c hi hc=>h.wf.nx hi hc
  have hlive:=Rw h hn2
  unfold Cb at hlive ⊢
  refine Gm (T:=Tryz.tt) Tryz.func59 rfl AR AB ?_ ?_ fun C hC hW hG hE=>?_
  . kernel_rfl
  . exact Nat.le_of_ble_eq_true (by kernel_rfl)
  conv=>whnf
  skip
  refine OH hlive hC Ma ?_ ?_ ?_
  . kernel_rfl
  . kernel_rfl
  intro r hr
  obtain ⟨D,rfl,hDl,hD⟩:=hr
  have hDm:(D.map V.bool).length=D.length:=by simp
  conv=>whnf
  repeat' (first|(refine Af (by first|assumption|omega) ?_;conv=>whnf)|(intro hlen;conv=>whnf))
  refine Ae (fun ((i,A):Nat×List Int)=>⟨117,[(1,.rp [.lst (N.map A9),.lst (F.map V.bool)]),(3,.lst (D.map V.bool)),(4,.sl 1 0 n),(25,.int .i64 n),(26,.int .i64 i)],[none,some (.row 1 (A.map (V.int .i64)))]⟩)
    (fun (i,A)=>i≤n∧A.length=n∧(∀x∈A,-1≤x∧x≤1048577)∧(∀j,j < i→ci A j=EF D F j)∧∀j,j < n→i≤j→ci A j=0) (fun (i,_)=>n - i) (0,List.replicate n 0) hE ?_ ?_ ⟨Nat.zero_le _,by simp,fun x hx=>by rw [List.eq_of_mem_replicate hx];omega,fun j hj=>by omega,fun j hj _=>by simp [ci,hj]⟩ ?_
  . kernel_rfl
  . refine AO 0 (z:=2) (els:=[Cb N F]) rfl ⟨⟨trivial,trivial,trivial⟩,trivial⟩ (AU [1,3,4,25,26] ?_)
    conv=>whnf
    rw [hNm,hNl,Int.toNat_natCast]
    show (⟨117,_,[none,some (.row 1 (An 0 [Cb N F] (List.replicate n (V.int .i64 0))))]⟩:ES)=⟨117,_,[none,some (.row 1 ((List.replicate n (0:Int)).map (V.int .i64)))]⟩
    rw [List.map_replicate,show List.replicate n (V.int .i64 0)=(List.replicate n (0:Int)).map (V.int .i64) by rw [List.map_replicate],AZ _ _ (AE _)]
    rfl
  rintro ⟨i,A⟩ ⟨hi,hAl,hAb,hA1,hA2⟩
  have hAm:(A.map (V.int .i64)).length=A.length:=by simp
  by_cases hlt:i < n
  . have g1:(D.map V.bool)[Int.toNat (i:Int)]?=some (.bool (bt D i)):=by rw [Int.toNat_natCast,List.getElem?_map,Hu hDl hlt];rfl
    have g2:(F.map V.bool)[Int.toNat (i:Int)]?=some (.bool (DW F i)):=by rw [Int.toNat_natCast,List.getElem?_map,h.fin hlt,Ru hFl hlt];rfl
    have g3:(A.map (V.int .i64))[0+Int.toNat (i:Int)]?=some (.int .i64 (ci A i)):=by rw [Nat.zero_add,Int.toNat_natCast,List.getElem?_map,EE hAl hlt];rfl
    have hset:∀v,v=EF D F i→(A.set i v).length=n∧(∀x∈A.set i v,-1≤x∧x≤1048577)∧(∀j,j < i+1→ci (A.set i v) j=EF D F j)∧∀j,j < n→i+1≤j→ci (A.set i v) j=0:=fun v hv=>by
      refine ⟨by simp [hAl],fun x hx=>?_,fun j hj=>?_,fun j hj hj2=>?_⟩
      . rcases List.mem_or_eq_of_mem_set hx with hx|rfl
        . exact hAb x hx
        . rw [hv]
          unfold EF
          split
          . omega
          . split<;>omega
      . rw [Gv hAl hlt]
        split
        . rename_i e;subst e;exact hv
        . exact hA1 j (by omega)
      . rw [Gv hAl hlt,if_neg (by omega)]
        exact hA2 j hj (by omega)
    have hkeep:EF D F i=0→A.set i 0=A:=fun _=>by
      apply List.ext_getElem?
      intro j
      rw [List.getElem?_set]
      split
      . rename_i e;subst e;rw [if_pos (by omega),EE hAl hlt,hA2 i hlt (Nat.le_refl _)]
      . rfl
    obtain ⟨bd,ebd⟩:∃b,bt D i=b:=⟨_,rfl⟩
    obtain ⟨bf,ebf⟩:∃b,DW F i=b:=⟨_,rfl⟩
    rw [ebd] at g1
    rw [ebf] at g2
    cases bd
    all_goals cases bf
    all_goals
      conv=>whnf
      repeat' (first|(refine AN (by first|assumption|omega) ?_;conv=>whnf)|(refine Af (by first|assumption|omega) ?_;conv=>whnf)|(refine AS (by omega) ?_;conv=>whnf)|(refine AQ (by assumption) ?_;conv=>whnf))
      first
      | (have hs:=hset 0 (by simp [EF,ebd,ebf])
         rw [hkeep (by simp [EF,ebd,ebf])] at hs
         refine AJ [1,3,4,25,26] (i+1,A) ⟨hlt,hs⟩ (by show n - (i+1) < n - i;omega) ?_
         conv=>whnf
         rfl)
      | (refine AJ [1,3,4,25,26] (i+1,A.set i (-1)) ⟨hlt,hset _ (by simp [EF,ebd])⟩ (by show n - (i+1) < n - i;omega) ?_
         conv=>whnf
         rw [Nat.zero_add,Int.toNat_natCast]
         show _=(⟨117,_,[none,some (.row 1 ((A.set i (-1)).map (V.int .i64)))]⟩:ES)
         rw [List.map_set]
         rfl)
      | (refine AJ [1,3,4,25,26] (i+1,A.set i 1) ⟨hlt,hset _ (by simp [EF,ebd,ebf])⟩ (by show n - (i+1) < n - i;omega) ?_
         conv=>whnf
         rw [Nat.zero_add,Int.toNat_natCast]
         show _=(⟨117,_,[none,some (.row 1 ((A.set i 1).map (V.int .i64)))]⟩:ES)
         rw [List.map_set]
         rfl)
  have hin:n=i:=by omega
  subst hin
  have hpart:Part (D3 n N) (DG F) (n+1) (D4 A):=cd hD (by rw [Zw,hAl]) fun j hj=>by
    by_cases e:j=n
    . subst e
      rw [Gw hAl]
      unfold EF
      rw [L6 hDl]
      rfl
    . have hj':j < n:=by omega
      rw [JW hAl hj',hA1 j hj']
      unfold EF
      rw [Ok hDl hj',Ru hFl hj']
  conv=>whnf
  repeat' (refine AM (by first|assumption|omega) ?_;conv=>whnf)
  refine Ae (fun ((A,many):List Int×Nat)=>⟨117,[(1,.rp [.lst (N.map A9),.lst (F.map V.bool)]),(4,.sl 1 0 n),(6,.int .i64 many)],[none,some (.row 1 (A.map (V.int .i64)))]⟩)
    (fun (A,many)=>A.length=n∧Part (D3 n N) (DG F) (n+1) (D4 A)∧(∀x∈A,-1≤x∧x≤1048577)∧(many=0∨Xa (n+1) (D4 A) many)∧many≤n+1) (fun (_,many)=>n+2 - many) (A,0) hE ?_ ?_ ⟨hAl,hpart,hAb,.inl rfl,Nat.zero_le _⟩ ?_
  . kernel_rfl
  . refine AU [1,4,6] ?_
    conv=>whnf
    try rfl
  clear hpart hA1 hA2 hAb hAl hAm hlt hi hD hDl hDm
  clear A
  rintro ⟨A,many⟩ ⟨hAl,hP,hAb,hmany,hmi⟩
  have hAm:(A.map (V.int .i64)).length=A.length:=by simp
  conv=>whnf
  repeat' (first|(refine Af (by first|assumption|omega) ?_;conv=>whnf)|(refine Ib ?_;conv=>whnf)|(intro hlen;conv=>whnf))
  refine Ae (fun ((i,M,B):Nat×List (List Int×Int)×List Int)=>⟨117,[(1,.rp [.lst (N.map A9),.lst (F.map V.bool)]),(4,.sl 1 0 n),(6,.int .i64 many),(7,.it 0),(8,.sl 2 0 n),(53,.lst (N.map A9)),(54,.int .i64 n),(55,.int .i64 i)],
      [some (H3 Es M),some (.row 1 (A.map (V.int .i64))),some (.row 1 (B.map (V.int .i64)))]⟩)
    (fun (i,M,B)=>i≤n∧B.length=n∧RndP (D3 n N) (n+1) (D4 A) (D4 B) M i) (fun (i,_,_)=>n - i) (0,[],List.replicate n 0) hE ?_ ?_ ⟨Nat.zero_le _,by simp,Rv _ n⟩ ?_
  . kernel_rfl
  . refine AU [1,4,6,7,8,53,54,55] ?_
    conv=>whnf
    rw [hNm,hNl,Int.toNat_natCast]
    show (⟨117,_,[_,_,some (.row 1 (List.replicate n (V.int .i64 0)))]⟩:ES)=⟨117,_,[_,_,some (.row 1 ((List.replicate n (0:Int)).map (V.int .i64)))]⟩
    rw [List.map_replicate]
    rfl
  rintro ⟨i,M,B⟩ ⟨hi,hBl,hR⟩
  have hBm:(B.map (V.int .i64)).length=B.length:=by simp
  by_cases hlt:i < n
  . obtain ⟨row,hrow⟩:∃x,N[i]?=some x:=⟨_,List.getElem?_eq_getElem (by omega)⟩
    obtain ⟨h8,hxs⟩:=h.rows row (List.mem_of_getElem? hrow)
    obtain ⟨a0,a1,a2,a3,a4,a5,a6,a7,rfl⟩:=J7 h8
    have g1:=Im hrow
    have g2:(A.map (V.int .i64))[0+Int.toNat (i:Int)]?=some (.int .i64 (ci A i)):=by rw [Nat.zero_add,Int.toNat_natCast,List.getElem?_map,EE hAl hlt];rfl
    obtain ⟨y,hy⟩:∃y,B[i]?=some y:=⟨_,List.getElem?_eq_getElem (by omega)⟩
    have g3:(B.map (V.int .i64))[0+Int.toNat (i:Int)]?=some (.int .i64 y):=by rw [Nat.zero_add,Int.toNat_natCast,List.getElem?_map,hy];rfl
    have hBs:∀v:Int,(B.set i v).length=n:=fun v=>by rw [List.length_set];exact hBl
    have hci:ci (D4 A) i=ci A i:=JW hAl hlt
    by_cases hneg:ci A i < 0
    . have hput:=hR.put (by omega) (-1) ⟨by omega,by omega⟩ (fun _=>rfl) (fun hp=>by omega)
      rw [Ol hBl hlt] at hput
      conv=>whnf
      repeat' (first|(refine AN (by first|assumption|omega) ?_;conv=>whnf)|(refine Af (by first|assumption|omega) ?_;conv=>whnf)|(refine AS (by omega) ?_;conv=>whnf)|(refine AQ (by assumption) ?_;conv=>whnf))
      refine AL [1,4,6,7,8,53,54,55] [3] (i+1,M,B.set i (-1)) ⟨hlt,hBs _,hput⟩ (by show n - (i+1) < n - i;omega) ?_
      conv=>whnf
      rw [Nat.zero_add,Int.toNat_natCast,←List.map_set,AA _ (AE _),AA _ (AE _)]
      rfl
    . conv=>whnf
      repeat' (first|(refine AN (by first|assumption|omega) ?_;conv=>whnf)|(refine AM (by first|assumption|omega) ?_;conv=>whnf)|(refine Af (by first|assumption|omega) ?_;conv=>whnf)|(refine AQ (by assumption) ?_;conv=>whnf))
      refine Ae (fun ((c,l):Nat×List Int)=>⟨117,[(1,.rp [.lst (N.map A9),.lst (F.map V.bool)]),(4,.sl 1 0 n),(6,.int .i64 many),(7,.it 0),(8,.sl 2 0 n),(9,.int .i64 i),(11,.sl 4 0 l.length),(53,.lst (N.map A9)),(54,.int .i64 n),(55,.int .i64 i),(73,A9 [a0,a1,a2,a3,a4,a5,a6,a7]),(74,.int .i64 c)],
          [some (H3 Es M),some (.row 1 (A.map (V.int .i64))),some (.row 1 (B.map (V.int .i64))),none,some (.row 1 (l.map (V.int .i64)))]⟩)
        (fun (c,l)=>c≤8∧l.length=c+1∧l=ci (D4 A) i::(List.range c).map fun c=>ci (D4 A) (Dh (D3 n N) i c)) (fun (c,_)=>8 - c) (0,[ci A i]) hE ?_ ?_ ⟨Nat.zero_le _,rfl,by rw [hci];rfl⟩ ?_
      . kernel_rfl
      . refine DP [1,4,6,7,8,9,11,53,54,55,73,74] [3] ?_
        conv=>whnf
        rw [AA _ (AE A),AA _ (AE B)]
        rfl
      rintro ⟨c,l⟩ ⟨hc,hl1,hl⟩
      have hlm:(l.map (V.int .i64)).length=l.length:=by simp
      by_cases hc8:c < 8
      . obtain ⟨row',x,hrow',_,hxc,hx0,hxn,ex⟩:=h.get hlt hc8
        rw [hrow] at hrow'
        cases hrow'
        have hl':l++[if x < 0 then -1 else ci A x.toNat]=ci (D4 A) i::(List.range (c+1)).map fun c=>ci (D4 A) (Dh (D3 n N) i c):=by
          rw [hl,List.range_succ,List.map_append,←ce hAl ⟨hx0,hxn⟩,←ex]
          rfl
        have hl2:∀v:Int,(l++[v]).length=c+1+1:=fun v=>by simp [hl1]
        clear ex hl
        by_cases hneg:x < 0
        . rw [if_pos hneg] at hl'
          obtain rfl|rfl|rfl|rfl|rfl|rfl|rfl|rfl:c=0∨c=1∨c=2∨c=3∨c=4∨c=5∨c=6∨c=7:=by omega
          all_goals simp only [List.getElem?_cons_zero,List.getElem?_cons_succ,Option.some.injEq] at hxc
          all_goals subst hxc
          all_goals
            conv=>whnf
            repeat' (first|(refine AN (by first|assumption|omega) ?_;conv=>whnf)|(refine AM (by first|assumption|omega) ?_;conv=>whnf)|(refine Af (by first|assumption|omega) ?_;conv=>whnf)|(refine AS (by omega) ?_;conv=>whnf)|(refine Af (Nat.le_refl 1) ?_;conv=>whnf)|(refine Af ⟨?_,?_,?_⟩ ?_;(simp<;>omega);(show _+1≤9223372036854775807;omega);(show (_+1)*_≤140737488355328;omega);conv=>whnf))
            refine AL [1,4,6,7,8,9,11,53,54,55,73,74] [3] (_+1,l++[-1]) ⟨?_,hl2 _,hl'⟩ ?_ ?_
            . omega
            . show 8 - _ < 8 - _;omega
            conv=>whnf
            rw [KT,KU]
            simp only [AA _ (AE _)]
            rfl
        rw [if_neg hneg] at hl'
        have hxt:x.toNat < n:=by omega
        have g4:(A.map (V.int .i64))[0+Int.toNat x]?=some (.int .i64 (ci A x.toNat)):=by rw [Nat.zero_add,List.getElem?_map,EE hAl hxt];rfl
        obtain rfl|rfl|rfl|rfl|rfl|rfl|rfl|rfl:c=0∨c=1∨c=2∨c=3∨c=4∨c=5∨c=6∨c=7:=by omega
        all_goals simp only [List.getElem?_cons_zero,List.getElem?_cons_succ,Option.some.injEq] at hxc
        all_goals subst hxc
        all_goals
          conv=>whnf
          repeat' (first|(refine AN (by first|assumption|omega) ?_;conv=>whnf)|(refine Af (by first|assumption|omega) ?_;conv=>whnf)|(refine AS (by omega) ?_;conv=>whnf)|(refine AQ (by assumption) ?_;conv=>whnf)|(refine Af (Nat.le_refl 1) ?_;conv=>whnf)|(refine Af ⟨?_,?_,?_⟩ ?_;(simp<;>omega);(show _+1≤9223372036854775807;omega);(show (_+1)*_≤140737488355328;omega);conv=>whnf))
          refine AL [1,4,6,7,8,9,11,53,54,55,73,74] [3] (_+1,l++[_]) ⟨?_,hl2 _,hl'⟩ ?_ ?_
          . omega
          . show 8 - _ < 8 - _;omega
          conv=>whnf
          rw [KT,KU]
          simp only [AA _ (AE _)]
          rfl
      . obtain rfl:c=8:=by omega
        obtain rfl:l=BP (D3 n N) (D4 A) i:=hl
        have hsb:∀x∈BP (D3 n N) (D4 A) i,-9223372036854775808≤x∧x≤9223372036854775807:=by
          have hcb:∀j,j < n+1→-1≤ci (D4 A) j∧ci (D4 A) j≤1048577:=fun j hj=>by
            by_cases e:j=n
            . subst e;rw [Gw hAl];omega
            . rw [JW hAl (by omega)]
              exact hAb _ (List.mem_of_getElem? (EE hAl (by omega)))
          intro x hx
          unfold BP at hx
          rcases List.mem_cons.1 hx with rfl|hx
          . have:=hcb i (by omega);omega
          . obtain ⟨d,hd,rfl⟩:=List.mem_map.1 hx
            have:=hcb _ (hnx i d (by omega) (List.mem_range.1 hd));omega
        have hkw:=(Lq (BP (D3 n N) (D4 A) i) (by omega) hsb).c hC hW DQ hG
        have hnn:0≤ci (D4 A) i:=by omega
        cases hlk:Az (BP (D3 n N) (D4 A) i) M with
        | some v=>
          have hput:=hR.known (by omega) (by omega) hnn hlk
          rw [Ol hBl hlt] at hput
          conv=>whnf
          repeat' (first|(refine AM (by first|assumption|omega) ?_;conv=>whnf)|(refine Af (by first|assumption|omega) ?_;conv=>whnf)|(refine AS (by omega) ?_;conv=>whnf)|(refine AQ (by assumption) ?_;conv=>whnf)|(refine F4 4 hkw hC Cd rfl (AE _) rfl ?_ (by kernel_rfl) ?_ ?_;(show [(V.sl 4 0 (BP (D3 n N) (D4 A) i).length).frz 4 ((BP (D3 n N) (D4 A) i).map (V.int .i64))]=[AY (BP (D3 n N) (D4 A) i)];rw [BY 4 _ (by simp)];rfl);kernel_rfl;conv=>whnf)|(refine Ep (kV:=Es) (kA:=Lo) (by rw [hC];exact key_ok) 0 M (BP (D3 n N) (D4 A) i) v rfl rfl rfl hlk ?_;conv=>whnf)|(refine Fy (kV:=Es) (kA:=Lo) (by rw [hC];exact key_ok) 0 M (BP (D3 n N) (D4 A) i) v rfl rfl rfl (by rw [hlk];rfl) ?_;conv=>whnf))
          refine AL [1,4,6,7,8,53,54,55] [4] (i+1,M,B.set i v) ⟨hlt,hBs _,hput⟩ (by show n - (i+1) < n - i;omega) ?_
          conv=>whnf
          rw [Nat.zero_add,Int.toNat_natCast,←List.map_set]
          simp only [AA _ (AE _)]
          rfl
        | none=>
          have hput:=hR.new (by omega) (by omega) hnn hlk
          rw [Ol hBl hlt] at hput
          conv=>whnf
          repeat' (first|(refine AM (by first|assumption|omega) ?_;conv=>whnf)|(refine Af (by first|assumption|omega) ?_;conv=>whnf)|(refine AS (by omega) ?_;conv=>whnf)|(refine AQ (by assumption) ?_;conv=>whnf)|(refine F4 4 hkw hC Cd rfl (AE _) rfl ?_ (by kernel_rfl) ?_ ?_;(show [(V.sl 4 0 (BP (D3 n N) (D4 A) i).length).frz 4 ((BP (D3 n N) (D4 A) i).map (V.int .i64))]=[AY (BP (D3 n N) (D4 A) i)];rw [BY 4 _ (by simp)];rfl);kernel_rfl;conv=>whnf)|(refine Eq (kV:=Es) (kA:=Lo) (by rw [hC];exact key_ok) 0 M (BP (D3 n N) (D4 A) i) rfl rfl rfl hlk ?_;conv=>whnf)|(refine KN (kV:=Es) 0 M rfl rfl (by rw [hC];exact ⟨_,_,key_ok.map.choose_spec.choose_spec.1⟩) ?_;conv=>whnf)|(refine Ic (kV:=Es) (kA:=Lo) (by rw [hC];exact key_ok) 0 M (BP (D3 n N) (D4 A) i) M.length rfl rfl rfl rfl hlk ?_;conv=>whnf)|(refine Fy (kV:=Es) (kA:=Lo) (by rw [hC];exact key_ok) 0 (M++[(BP (D3 n N) (D4 A) i,(M.length:Int))]) (BP (D3 n N) (D4 A) i) M.length rfl rfl rfl (by rw [FE,hlk];simp [Az]) ?_;conv=>whnf))
          refine AL [1,4,6,7,8,53,54,55] [4] (i+1,M++[(BP (D3 n N) (D4 A) i,(M.length:Int))],B.set i (M.length:Int)) ⟨hlt,hBs _,hput⟩ (by show n - (i+1) < n - i;omega) ?_
          conv=>whnf
          rw [Nat.zero_add,Int.toNat_natCast,←List.map_set]
          simp only [AA _ (AE _)]
          rfl
  . have hin:n=i:=by omega
    subst hin
    have hfull:=VD hAl hBl hR
    obtain ⟨m1,m2,m3⟩:=L5 hP hfull hmany
    obtain ⟨hP',hN'⟩:=Hv hnx hP hfull
    conv=>whnf
    repeat' (first|(refine AM (by first|assumption|omega) ?_;conv=>whnf)|(refine KN (kV:=Es) 0 M rfl rfl (by rw [hC];exact ⟨_,_,key_ok.map.choose_spec.choose_spec.1⟩) ?_;conv=>whnf)|(refine Ca (BM 2 2 [] rfl ?_ rfl ?_ rfl (AP ?_)))|(refine He (fun h=>?_) (fun h=>?_)<;>conv=>whnf)|(refine AH hE ?_;conv=>whnf))
    . exact AE B
    . omega
    . exact ⟨rfl,B,rfl,hBl,QP hnx hP hfull hmany (by omega)⟩
    . refine Bc 0 (Bc 1 (EO 2 1 (by decide) rfl rfl (AL [1,4,6] [] (B,M.length) ⟨hBl,hP',fun x hx=>hR.bnd x (List.mem_append_left _ hx),.inr hN',m2⟩ ?_ ?_)))
      . show _+2 - M.length < _+2 - many
        omega
      conv=>whnf
      rw [AA _ (AE B),AA _ (AE B),EB _ _ (AE B)]
      rfl
end Go.Proofs.YtkaiffheakalmaaGreatDoor
namespace Go.Proofs.YtkaiffheakalmaaGreatDoor
open Go.RowKit
theorem Io {C:Ctx} {P:Program} {K:V→ES→Prop} {σ:ES} (hC:C.P=P) {dT sT e:TypeId} (hu:P.underlying dT=some (.slice e)) (hz:∀w,(Go.sizeOf e).run P w= .ok 1 w)
    {d x:Operand} (id off len:Nat) {els:List V} (l:List V) (hd:σ.val d= .sl id off len) (hrow:σ.heap[id]?=some (some (.row 1 els))) (hoff:off+len≤els.length) (h0:0 < len)
    (hs:∀a w I bl,RP C σ.st a w I bl→∃news,Src C.P w I bl 1 (a.eval x) l news) (hm:l.length≤len)
    (hK:fH (σ.heap.set id (some (.row 1 (els.take off++l++els.drop (off+l.length))))) fun h=>K (.int .i64 l.length) ⟨σ.n,σ.u,h⟩):OpN C (.call { callee:=.builtin .copy,args:=#[d,x],argTypes:=#[dT,sT]}) K σ:=by
  subst hC
  rw [BB] at hK
  refine ⟨fun o ho=>Am fun a w I bl hp=>?_⟩
  obtain ⟨news,hsrc⟩:=hs a w I bl hp
  have hnl:news.length=l.length:=by rw [hsrc.cells.1,Nat.mul_one]
  have hv:=hp.val d
  rw [Av,hd] at hv
  rcases hv.inv_sl with ⟨base,z',_,_,h5,_⟩|⟨a',i',_,h5,_⟩|⟨cap,b,base,z',n,e',h1,h2,h3,h4,h5,h6⟩
  . omega
  . omega
  obtain ⟨bi,g1,g2,g3,g4⟩:=hp.heap.obj id _ hrow
  rw [h1] at g1
  simp only [Option.some.injEq] at g1
  subst g1
  simp only at g2
  subst g2
  simp only at g4
  obtain ⟨cur,e2,hg,hsz,hc⟩:=g4
  have hsh:=hg.shape
  rw [h2] at hsh
  simp only [Option.some.injEq,Prod.mk.injEq] at hsh
  obtain ⟨rfl,rfl⟩:=hsh
  have hfit:base+off+news.length≤cur.size:=by omega
  obtain ⟨fz,hfz,hgh⟩:=hg
  have hst:=B6 (z:=1) (P:=C.P) b (base+off) e' fz news 0 cur w hgh hfz (by simpa using hfit) hsrc.cells.2.1
  simp only [Nat.add_zero] at hst
  have hmin:Nat.min l.length len=l.length:=Nat.min_eq_left hm
  have hrun:(Builtin.copy_ #[dT,sT] o.type #[.slice (some ⟨b,base+off,none⟩) len cap,a.eval x]).run C.P w= .ok (goInt l.length) (w.setRow b (cur.toList.take (base+off)++news++cur.toList.drop (base+off+news.length)).toArray):=by
    have hf:=hsrc.first w rfl
    simp [Builtin.copy_,run_underlying hu,hz,hsrc.len,hmin,hf,hst]
  have hat:∀p,p < cur.size→(cur.toList.take (base+off)++news++cur.toList.drop (base+off+news.length)).toArray[p]?=if p < base+off then cur[p]? else if p < base+off+news.length then news[p - (base+off)]? else cur[p]?:=by
    intro p hp
    simp only [List.getElem?_toArray]
    by_cases h1:p < base+off
    . rw [if_pos h1,List.append_assoc,List.getElem?_append_left (by simp;omega),List.getElem?_take,if_pos h1,Array.getElem?_toList]
    . rw [if_neg h1]
      by_cases h2:p < base+off+news.length
      . rw [if_pos h2,List.append_assoc,List.getElem?_append_right (by simp;omega),List.getElem?_append_left (by simp;omega)]
        congr 1
        simp
        omega
      . rw [if_neg h2,List.getElem?_append_right (by simp;omega),List.getElem?_drop,Array.getElem?_toList]
        congr 1
        simp
        omega
  have hel:∀k y,(els.take off++l++els.drop (off+l.length))[k]?=some y→(k < off∧els[k]?=some y)∨(off≤k∧k < off+l.length∧l[k - off]?=some y)∨(off+l.length≤k∧els[k]?=some y):=by
    intro k y hy
    by_cases h1:k < off
    . rw [List.append_assoc,List.getElem?_append_left (by simp;omega),List.getElem?_take,if_pos h1] at hy
      exact .inl ⟨h1,hy⟩
    . by_cases h2:k < off+l.length
      . rw [List.append_assoc,List.getElem?_append_right (by simp;omega),List.getElem?_append_left (by simp;omega)] at hy
        refine .inr (.inl ⟨by omega,h2,?_⟩)
        rw [←hy]
        congr 1
        simp
        omega
      . rw [List.getElem?_append_right (by simp;omega),List.getElem?_drop] at hy
        refine .inr (.inr ⟨by omega,?_⟩)
        rw [←hy]
        congr 1
        simp
        omega
  have hw:=hp.write h1 ⟨fz,hfz,hgh⟩ (cur.toList.take (base+off)++news++cur.toList.drop (base+off+news.length)).toArray (by simp;omega) (els.take off++l++els.drop (off+l.length))
      (fun k y hy=>by
        rcases hel k y hy with ⟨_,h⟩|⟨_,_,h⟩|⟨_,h⟩
        . exact g3 k y h
        . exact hsrc.cells.2.2.1 _ y h
        . exact g3 k y h) (by simp;omega) (fun k y j c hy hc'=>by
        have hk:k < els.length:=by
          have:=(List.getElem?_eq_some_iff.1 hy).1
          simp at this
          omega
        have hj:j < 1:=by
          have hyc:y.cells.length=1:=by
            rcases hel k y hy with ⟨_,h⟩|⟨_,_,h⟩|⟨_,h⟩
            . exact g3 k y h
            . exact hsrc.cells.2.2.1 _ y h
            . exact g3 k y h
          rw [←hyc];exact (List.getElem?_eq_some_iff.1 hc').1
        obtain rfl:j=0:=by omega
        rw [Nat.mul_one,Nat.add_zero]
        have hlt:base+k < cur.size:=by omega
        rw [hat _ hlt]
        rcases hel k y hy with ⟨hk1,h⟩|⟨hk1,hk2,h⟩|⟨hk1,h⟩
        . rw [if_pos (by omega)]
          have:=hc k y 0 c h hc'
          rwa [Nat.mul_one,Nat.add_zero] at this
        . rw [if_neg (by omega),if_pos (by omega)]
          have hkl:base+k - (base+off) < news.length:=by omega
          refine ⟨news[base+k - (base+off)],List.getElem?_eq_getElem hkl,hsrc.cells.2.1 _ (List.getElem_mem hkl),?_⟩
          refine hsrc.cells.2.2.2 (k - off) y 0 c _ h hc' ?_
          rw [Nat.mul_one,Nat.add_zero,List.getElem?_eq_getElem (by omega)]
          congr 2
          omega
        . rw [if_neg (by omega),if_neg (by omega)]
          have:=hc k y 0 c h hc'
          rwa [Nat.mul_one,Nat.add_zero] at this)
  have hr1:HZ C (⟨σ.n,σ.u,σ.heap.set id (some (.row 1 (els.take off++l++els.drop (off+l.length))))⟩:ES).st [.int .i64 l.length] a _ [goInt l.length]:=hw.relx (.pure _ _ (.int _ _))
  exact ⟨goInt l.length,_,.int .i64 l.length,_,by simp [execOp,ho,resolve,invoke,builtin,h6,hrun],Cv hK,hr1⟩
end Go.Proofs.YtkaiffheakalmaaGreatDoor
namespace Go.Proofs.YtkaiffheakalmaaGreatDoor
open Go.RowKit
theorem Zy {k:IntKind} {n:Int} {A B:Prop} (h:UU k n=true) (a:A):FitD k n A B:=⟨dB h a⟩
theorem Xl:Fn1 Tryz.prog 99 [.int .u64 1,.int .u64 8] (fun r=>r= .tup [.int .u64 0,.int .u64 8]):=by
  refine A4 (T:=Tryz.tt) Tryz.func99 rfl AR AB ?_ ?_ fun C hC hE=>?_
  . kernel_rfl
  . exact Nat.le_of_ble_eq_true (by kernel_rfl)
  conv=>whnf
  repeat' (first|(refine Af (by first|assumption|omega) ?_;conv=>whnf)|(refine dE (by simp only [Mo,Mp];omega) ?_;conv=>whnf)|(refine Zy (by kernel_rfl) ?_;conv=>whnf)|(refine AH hE ?_;conv=>whnf))
  exact ⟨by kernel_rfl,by kernel_rfl⟩
theorem Xm:Fn1 Tryz.prog 85 [.int .u64 1,.int .u64 8] (fun r=>r= .tup [.int .u64 0,.int .u64 8]):=by
  refine A4 (T:=Tryz.tt) Tryz.func85 rfl AR AB ?_ ?_ fun C hC hE=>?_
  . kernel_rfl
  . exact Nat.le_of_ble_eq_true (by kernel_rfl)
  conv=>whnf
  repeat' (first|(refine AC (Xl) hC Sw ?_ ?_ ?_;kernel_rfl;kernel_rfl;conv=>whnf)|(refine AH hE ?_;conv=>whnf))
  exact ⟨rfl,rfl⟩
theorem HF (w:World):(Go.sizeOf 3).run Tryz.prog w= .ok 1 w:=by kernel_rfl
theorem Rx:Fn1 Tryz.prog 60 [AY [-1],.int .i64 8] (fun r=>r=AY (List.replicate 8 (-1))):=by
  have hmul:=Xm
  unfold AY
  refine A4 (T:=Tryz.tt) Tryz.func60 rfl AR AB ?_ ?_ fun C hC hE=>?_
  . kernel_rfl
  . exact Nat.le_of_ble_eq_true (by kernel_rfl)
  conv=>whnf
  repeat' (first|(refine AM (by first|assumption|omega) ?_;conv=>whnf)|(refine Af (by first|assumption|omega) ?_;conv=>whnf)|(refine AS (by omega) ?_;conv=>whnf)|(refine dE (by simp only [Mo,Mp];omega) ?_;conv=>whnf)|(refine AC (Xm) hC Sq ?_ ?_ ?_;kernel_rfl;kernel_rfl;conv=>whnf)|(refine Io (e:=3) hC (by kernel_rfl) HF 0 0 8 (els:=List.replicate 8 (.int .i64 0)) [.int .i64 (-1)] rfl rfl (by decide) (by decide) (fun a w I bl hp=>S4 (hp.val _) ?_) (by decide) ?_;(intro y hy;simp at hy;subst hy;rfl);conv=>whnf)|(intro hlen;conv=>whnf))
  refine Ae (fun n:Nat=>⟨48,[(7,.sl 0 0 8),(8,.int .i64 n)],[some (.row 1 (List.replicate n (.int .i64 (-1))++List.replicate (8 - n) (.int .i64 0)))]⟩) (fun n=>n=1∨n=2∨n=4∨n=8) (fun n=>8 - n) 1 hE ?_ ?_ (.inl rfl) ?_
  . kernel_rfl
  . refine AU [7,8] ?_
    conv=>whnf
    rfl
  rintro n hn
  rcases hn with rfl|rfl|rfl|rfl
  . conv=>whnf
    repeat' (first|(refine AN (by first|assumption|omega) ?_;conv=>whnf)|(refine Af (by first|assumption|omega) ?_;conv=>whnf)|(refine Zy (by kernel_rfl) ?_;conv=>whnf)|(refine DO hE [⟨0,[(0,none),(1,none),(2,none),(3,none),(4,none),(5,none),(6,none)],some 7,[0],[[],[0]],[]⟩,⟨0,[(8,none),(9,none)],none,[],[[]],[]⟩] ?_ ?_;decide +kernel;conv=>whnf)|(refine Io (e:=3) hC (by kernel_rfl) HF 0 1 7 (els:=List.replicate 1 (V.int .i64 (-1))++List.replicate (8 - 1) (V.int .i64 0)) (((List.replicate 1 (V.int .i64 (-1))++List.replicate (8 - 1) (V.int .i64 0)).drop 0).take 1) rfl rfl (by decide) (by decide) ?_ (by decide) ?_;exact fun a w I bl hp=>N4 (id:=0) hp (show Rep w I bl _ (.sl 0 0 1) from hp.val _) rfl (by decide);conv=>whnf)|(intro hlen;conv=>whnf)|(refine Cy ?_;conv=>whnf)|(refine JD ?_ ?_<;>conv=>whnf))
    all_goals
      refine AJ [7,8] 2 (Or.inr (Or.inl rfl)) (show 8 - 2 < 8 - 1 by decide) ?_
      conv=>whnf
      rfl
  . conv=>whnf
    repeat' (first|(refine AN (by first|assumption|omega) ?_;conv=>whnf)|(refine Af (by first|assumption|omega) ?_;conv=>whnf)|(refine Zy (by kernel_rfl) ?_;conv=>whnf)|(refine DO hE [⟨0,[(0,none),(1,none),(2,none),(3,none),(4,none),(5,none),(6,none)],some 7,[0],[[],[0]],[]⟩,⟨0,[(8,none),(9,none)],none,[],[[]],[]⟩] ?_ ?_;decide +kernel;conv=>whnf)|(refine Io (e:=3) hC (by kernel_rfl) HF 0 2 6 (els:=List.replicate 2 (V.int .i64 (-1))++List.replicate (8 - 2) (V.int .i64 0)) (((List.replicate 2 (V.int .i64 (-1))++List.replicate (8 - 2) (V.int .i64 0)).drop 0).take 2) rfl rfl (by decide) (by decide) ?_ (by decide) ?_;exact fun a w I bl hp=>N4 (id:=0) hp (show Rep w I bl _ (.sl 0 0 2) from hp.val _) rfl (by decide);conv=>whnf)|(intro hlen;conv=>whnf)|(refine Cy ?_;conv=>whnf)|(refine JD ?_ ?_<;>conv=>whnf))
    all_goals
      refine AJ [7,8] 4 (Or.inr (Or.inr (Or.inl rfl))) (show 8 - 4 < 8 - 2 by decide) ?_
      conv=>whnf
      rfl
  . conv=>whnf
    repeat' (first|(refine AN (by first|assumption|omega) ?_;conv=>whnf)|(refine Af (by first|assumption|omega) ?_;conv=>whnf)|(refine Zy (by kernel_rfl) ?_;conv=>whnf)|(refine DO hE [⟨0,[(0,none),(1,none),(2,none),(3,none),(4,none),(5,none),(6,none)],some 7,[0],[[],[0]],[]⟩,⟨0,[(8,none),(9,none)],none,[],[[]],[]⟩] ?_ ?_;decide +kernel;conv=>whnf)|(refine Io (e:=3) hC (by kernel_rfl) HF 0 4 4 (els:=List.replicate 4 (V.int .i64 (-1))++List.replicate (8 - 4) (V.int .i64 0)) (((List.replicate 4 (V.int .i64 (-1))++List.replicate (8 - 4) (V.int .i64 0)).drop 0).take 4) rfl rfl (by decide) (by decide) ?_ (by decide) ?_;exact fun a w I bl hp=>N4 (id:=0) hp (show Rep w I bl _ (.sl 0 0 4) from hp.val _) rfl (by decide);conv=>whnf)|(intro hlen;conv=>whnf)|(refine Cy ?_;conv=>whnf)|(refine JD ?_ ?_<;>conv=>whnf))
    all_goals
      refine AJ [7,8] 8 (Or.inr (Or.inr (Or.inr rfl))) (show 8 - 8 < 8 - 4 by decide) ?_
      conv=>whnf
      rfl
  . conv=>whnf
    repeat' (first|(refine AM (by first|assumption|omega) ?_;conv=>whnf)|(refine Ca (BM 0 4 [] rfl ?_ rfl ?_ rfl (AP ?_)))|(refine AH hE ?_;conv=>whnf)|(intro hlen;conv=>whnf))
    . exact ⟨trivial,trivial,trivial,trivial,trivial,trivial,trivial,trivial,trivial⟩
    . rfl
    . exact ⟨rfl,rfl⟩
end Go.Proofs.YtkaiffheakalmaaGreatDoor
