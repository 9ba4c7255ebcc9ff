/- Joined. No conditions. -/
import Derived.Test.YtkaiffheakalmaaGreatDoorJ9bh
import Derived.Handy
import Derived.Laws.AppendOwn
set_option linter.unusedSimpArgs false
set_option linter.unusedVariables false
set_option maxRecDepth 100000
namespace Go.Proofs.YtkaiffheakalmaaGreatDoor
open Go.RowKit
set_option maxHeartbeats 16000000 in
theorem N5 {N:List (List Int)} {F:List Bool} {n:Nat} (h:WFp n N F) (hn2:n≤1048575):
 Fn1G Tryz.prog GT 59 [Dn N F] (fun r=>∃C:List Int,r=AL C∧C.length=n∧Cls (Eh n N) (Dg F) (n+1) (Ei C)):=by
 have hNm:(N.map BV).length=N.length:=by simp
 have hFm:(F.map V.bool).length=F.length:=by simp
 have hNl:=h.lenN
 have hFl:=h.lenF
 have hnx:∀i c,i < n+1→c < 8→Em (Eh n N) i c < n+1:=fun i c hi hc=>h.wf.nx hi hc
 have hlive:=T2 h hn2
 unfold Dn at hlive ⊢
 refine GN Tryz.func59 fun C hC hW hG hE=>?_
 conv=>whnf
 skip
 refine VM hlive hC Um ?_ ?_ ?_
 ·kernel_rfl
 ·kernel_rfl
 intro r hr
 obtain ⟨D,rfl,hDl,hD⟩:=hr
 have hDm:(D.map V.bool).length=D.length:=by simp
 conv=>whnf
 repeat' (first|refine AO ?_|intro hlen)<;>conv=>whnf
 refine Ab (fun ((i,A):Nat×List Int)=>⟨117,[(1,.rp [.lst (N.map BV),.lst (F.map V.bool)]),(3,.lst (D.map V.bool)),(4,.sl 1 0 n),(25,.int .i64 n),(26,.int .i64 i)],[none,some (.row 1 (A.map (V.int .i64)))]⟩)
  (fun (i,A)=>i≤n∧A.length=n∧(∀x∈A,-1≤x∧x≤1048577)∧(∀j,j < i→ci A j=ID D F j)∧∀j,j < n→i≤j→ci A j=0) (fun (i,_)=>n - i) (0,List.replicate n 0) hE ?_ ⟨Nat.zero_le _,by simp,fun x hx=>by rw [List.eq_of_mem_replicate hx];omega,fun j hj=>by omega,fun j hj _=>by simp [ci,hj]⟩ ?_
 ·refine AK 0 (z:=2) (els:=[Dn N F]) rfl ⟨⟨trivial,trivial,trivial⟩,trivial⟩ (AP [1,3,4,25,26] ?_)
  conv=>whnf
  rw [hNm,hNl,Int.toNat_natCast]
  show (⟨117,_,[none,some (.row 1 (Ai 0 [Dn N F] (List.replicate n (V.int .i64 0))))]⟩:ES)=⟨117,_,[none,some (.row 1 ((List.replicate n (0:Int)).map (V.int .i64)))]⟩
  rw [List.map_replicate,show List.replicate n (V.int .i64 0)=(List.replicate n (0:Int)).map (V.int .i64) by rw [List.map_replicate],AX _ _ (AJ _)]
  rfl
 rintro ⟨i,A⟩ ⟨hi,hAl,hAb,hA1,hA2⟩
 have hAm:(A.map (V.int .i64)).length=A.length:=by simp
 by_cases hlt:i < n
 ·have g1:(D.map V.bool)[Int.toNat (i:Int)]?=some (.bool (bt D i)):=by rw [Int.toNat_natCast,List.getElem?_map,KG hDl hlt];rfl
  have g2:(F.map V.bool)[Int.toNat (i:Int)]?=some (.bool (Dv F i)):=by rw [Int.toNat_natCast,List.getElem?_map,h.fin hlt,T5 hFl hlt];rfl
  have g3:(A.map (V.int .i64))[0+Int.toNat (i:Int)]?=some (.int .i64 (ci A i)):=by rw [Nat.zero_add,Int.toNat_natCast,List.getElem?_map,Id hAl hlt];rfl
  have hset:∀v,v=ID D F i→(A.set i v).length=n∧(∀x∈A.set i v,-1≤x∧x≤1048577)∧(∀j,j < i+1→ci (A.set i v) j=ID D F j)∧∀j,j < n→i+1≤j→ci (A.set i v) j=0:=fun v hv=>by
   refine ⟨by simp [hAl],fun x hx=>?_,fun j hj=>?_,fun j hj hj2=>?_⟩
   ·rcases List.mem_or_eq_of_mem_set hx with hx|rfl
    ·exact hAb x hx
    ·rw [hv]
     unfold ID
     split
     ·omega
     ·split<;>omega
   ·rw [KH hAl hlt]
    split
    ·rename_i e;subst e;exact hv
    ·exact hA1 j (by omega)
   ·rw [KH hAl hlt,if_neg (by omega)]
    exact hA2 j hj (by omega)
  have hkeep:ID D F i=0→A.set i 0=A:=fun _=>by
   apply List.ext_getElem?
   intro j
   rw [List.getElem?_set]
   split
   ·rename_i e;subst e;rw [if_pos (by omega),Id hAl hlt,hA2 i hlt (Nat.le_refl _)]
   ·rfl
  obtain ⟨bd,ebd⟩:∃b,bt D i=b:=⟨_,rfl⟩
  obtain ⟨bf,ebf⟩:∃b,Dv F i=b:=⟨_,rfl⟩
  rw [ebd] at g1
  rw [ebf] at g2
  cases bd
  all_goals cases bf
  all_goals
   conv=>whnf
   repeat' (first|refine A2 ?_|refine AO ?_|refine AV ?_|refine Ad ?_)<;>conv=>whnf
   first
   | (have hs:=hset 0 (by simp [ID,ebd,ebf])
      rw [hkeep (by simp [ID,ebd,ebf])] at hs
      refine AD [1,3,4,25,26] (i+1,A) ⟨hlt,hs⟩ (by show n - (i+1) < n - i;omega) ?_
      conv=>whnf
      rfl)
   | (refine AD [1,3,4,25,26] (i+1,A.set i (-1)) ⟨hlt,hset _ (by simp [ID,ebd])⟩ (by show n - (i+1) < n - i;omega) ?_
      conv=>whnf
      rw [Nat.zero_add,Int.toNat_natCast]
      show _=(⟨117,_,[none,some (.row 1 ((A.set i (-1)).map (V.int .i64)))]⟩:ES)
      rw [List.map_set]
      rfl)
   | (refine AD [1,3,4,25,26] (i+1,A.set i 1) ⟨hlt,hset _ (by simp [ID,ebd,ebf])⟩ (by show n - (i+1) < n - i;omega) ?_
      conv=>whnf
      rw [Nat.zero_add,Int.toNat_natCast]
      show _=(⟨117,_,[none,some (.row 1 ((A.set i 1).map (V.int .i64)))]⟩:ES)
      rw [List.map_set]
      rfl)
 have hin:n=i:=by omega
 subst hin
 have hpart:Part (Eh n N) (Dg F) (n+1) (Ei A):=iO hD (by rw [dQ,hAl]) fun j hj=>by
  by_cases e:j=n
  ·subst e
   rw [Hg hAl]
   unfold ID
   rw [NN hDl]
   rfl
  ·have hj':j < n:=by omega
   rw [KX hAl hj',hA1 j hj']
   unfold ID
   rw [QU hDl hj',T5 hFl hj']
 conv=>whnf
 repeat' refine A1 ?_<;>conv=>whnf
 refine Ab (fun ((A,many):List Int×Nat)=>⟨117,[(1,.rp [.lst (N.map BV),.lst (F.map V.bool)]),(4,.sl 1 0 n),(6,.int .i64 many)],[none,some (.row 1 (A.map (V.int .i64)))]⟩)
  (fun (A,many)=>A.length=n∧Part (Eh n N) (Dg F) (n+1) (Ei A)∧(∀x∈A,-1≤x∧x≤1048577)∧(many=0∨cR (n+1) (Ei A) many)∧many≤n+1) (fun (_,many)=>n+2 - many) (A,0) hE ?_ ⟨hAl,hpart,hAb,.inl rfl,Nat.zero_le _⟩ ?_
 ·refine AP [1,4,6] ?_
  conv=>whnf
  try rfl
 clear hpart hA1 hA2 hAb hAl hAm hlt hi hD hDl hDm
 clear A
 rintro ⟨A,many⟩ ⟨hAl,hP,hAb,hmany,hmi⟩
 have hAm:(A.map (V.int .i64)).length=A.length:=by simp
 conv=>whnf
 repeat' (first|refine AO ?_|refine Mq ?_|intro hlen)<;>conv=>whnf
 refine Ab (fun ((i,M,B):Nat×List (List Int×Int)×List Int)=>⟨117,[(1,.rp [.lst (N.map BV),.lst (F.map V.bool)]),(4,.sl 1 0 n),(6,.int .i64 many),(7,.it 0),(8,.sl 2 0 n),(53,.lst (N.map BV)),(54,.int .i64 n),(55,.int .i64 i)],
  [some (Jv JR M),some (.row 1 (A.map (V.int .i64))),some (.row 1 (B.map (V.int .i64)))]⟩)
  (fun (i,M,B)=>i≤n∧B.length=n∧RndP (Eh n N) (n+1) (Ei A) (Ei B) M i) (fun (i,_,_)=>n - i) (0,[],List.replicate n 0) hE ?_ ⟨Nat.zero_le _,by simp,T6 _ n⟩ ?_
 ·refine AP [1,4,6,7,8,53,54,55] ?_
  conv=>whnf
  rw [hNm,hNl,Int.toNat_natCast]
  show (⟨117,_,[_,_,some (.row 1 (List.replicate n (V.int .i64 0)))]⟩:ES)=⟨117,_,[_,_,some (.row 1 ((List.replicate n (0:Int)).map (V.int .i64)))]⟩
  rw [List.map_replicate]
  rfl
 rintro ⟨i,M,B⟩ ⟨hi,hBl,hR⟩
 have hBm:(B.map (V.int .i64)).length=B.length:=by simp
 by_cases hlt:i < n
 ·obtain ⟨row,hrow⟩:∃x,N[i]?=some x:=⟨_,List.getElem?_eq_getElem (by omega)⟩
  obtain ⟨h8,hxs⟩:=h.rows row (List.mem_of_getElem? hrow)
  obtain ⟨a0,a1,a2,a3,a4,a5,a6,a7,rfl⟩:=M6 h8
  have g1:=Mg hrow
  have g2:(A.map (V.int .i64))[0+Int.toNat (i:Int)]?=some (.int .i64 (ci A i)):=by rw [Nat.zero_add,Int.toNat_natCast,List.getElem?_map,Id hAl hlt];rfl
  obtain ⟨y,hy⟩:∃y,B[i]?=some y:=⟨_,List.getElem?_eq_getElem (by omega)⟩
  have g3:(B.map (V.int .i64))[0+Int.toNat (i:Int)]?=some (.int .i64 y):=by rw [Nat.zero_add,Int.toNat_natCast,List.getElem?_map,hy];rfl
  have hBs:∀v:Int,(B.set i v).length=n:=fun v=>by rw [List.length_set];exact hBl
  have hci:ci (Ei A) i=ci A i:=KX hAl hlt
  by_cases hneg:ci A i < 0
  ·have hput:=hR.put (by omega) (-1) ⟨by omega,by omega⟩ (fun _=>rfl) (fun hp=>by omega)
   rw [QV hBl hlt] at hput
   conv=>whnf
   repeat' (first|refine A2 ?_|refine AO ?_|refine AV ?_|refine Ad ?_)<;>conv=>whnf
   refine AM [1,4,6,7,8,53,54,55] [3] (i+1,M,B.set i (-1)) ⟨hlt,hBs _,hput⟩ (by show n - (i+1) < n - i;omega) ?_
   conv=>whnf
   rw [Nat.zero_add,Int.toNat_natCast,←List.map_set,AA _ (AJ _),AA _ (AJ _)]
   rfl
  ·conv=>whnf
   repeat' (first|refine A2 ?_|refine A1 ?_|refine AO ?_|refine Ad ?_)<;>conv=>whnf
   refine Ab (fun ((c,l):Nat×List Int)=>⟨117,[(1,.rp [.lst (N.map BV),.lst (F.map V.bool)]),(4,.sl 1 0 n),(6,.int .i64 many),(7,.it 0),(8,.sl 2 0 n),(9,.int .i64 i),(11,.sl 4 0 l.length),(53,.lst (N.map BV)),(54,.int .i64 n),(55,.int .i64 i),(73,BV [a0,a1,a2,a3,a4,a5,a6,a7]),(74,.int .i64 c)],
    [some (Jv JR M),some (.row 1 (A.map (V.int .i64))),some (.row 1 (B.map (V.int .i64))),none,some (.row 1 (l.map (V.int .i64)))]⟩)
    (fun (c,l)=>c≤8∧l.length=c+1∧l=ci (Ei A) i::(List.range c).map fun c=>ci (Ei A) (Em (Eh n N) i c)) (fun (c,_)=>8 - c) (0,[ci A i]) hE ?_ ⟨Nat.zero_le _,rfl,by rw [hci];rfl⟩ ?_
   ·refine EQ [1,4,6,7,8,9,11,53,54,55,73,74] [3] ?_
    conv=>whnf
    rw [AA _ (AJ A),AA _ (AJ B)]
    rfl
   rintro ⟨c,l⟩ ⟨hc,hl1,hl⟩
   have hlm:(l.map (V.int .i64)).length=l.length:=by simp
   by_cases hc8:c < 8
   ·obtain ⟨row',x,hrow',_,hxc,hx0,hxn,ex⟩:=h.get hlt hc8
    rw [hrow] at hrow'
    cases hrow'
    have hl':l++[if x < 0 then -1 else ci A x.toNat]=ci (Ei A) i::(List.range (c+1)).map fun c=>ci (Ei A) (Em (Eh n N) i c):=by
     rw [hl,List.range_succ,List.map_append,←eF hAl ⟨hx0,hxn⟩,←ex]
     rfl
    have hl2:∀v:Int,(l++[v]).length=c+1+1:=fun v=>by simp [hl1]
    clear ex hl
    by_cases hneg:x < 0
    ·rw [if_pos hneg] at hl'
     obtain rfl|rfl|rfl|rfl|rfl|rfl|rfl|rfl:c=0∨c=1∨c=2∨c=3∨c=4∨c=5∨c=6∨c=7:=by omega
     all_goals simp only [List.getElem?_cons_zero,List.getElem?_cons_succ,Option.some.injEq] at hxc
     all_goals subst hxc
     all_goals
      conv=>whnf
      repeat' (first|refine A2 ?_|refine A1 ?_|refine AO ?_|refine AV ?_|refine EN (Nat.le_refl 1) ?_|(refine EN ⟨?_,?_,?_⟩ ?_;(simp<;>omega);(show _+1≤9223372036854775807;omega);(show (_+1)*_≤140737488355328;omega)))<;>conv=>whnf
      refine AM [1,4,6,7,8,9,11,53,54,55,73,74] [3] (_+1,l++[-1]) ⟨?_,hl2 _,hl'⟩ ?_ ?_
      ·omega
      ·show 8 - _ < 8 - _;omega
      conv=>whnf
      rw [Po,Pp]
      simp only [AA _ (AJ _)]
      rfl
    rw [if_neg hneg] at hl'
    have hxt:x.toNat < n:=by omega
    have g4:(A.map (V.int .i64))[0+Int.toNat x]?=some (.int .i64 (ci A x.toNat)):=by rw [Nat.zero_add,List.getElem?_map,Id hAl hxt];rfl
    obtain rfl|rfl|rfl|rfl|rfl|rfl|rfl|rfl:c=0∨c=1∨c=2∨c=3∨c=4∨c=5∨c=6∨c=7:=by omega
    all_goals simp only [List.getElem?_cons_zero,List.getElem?_cons_succ,Option.some.injEq] at hxc
    all_goals subst hxc
    all_goals
     conv=>whnf
     repeat' (first|refine A2 ?_|refine AO ?_|refine AV ?_|refine Ad ?_|refine EN (Nat.le_refl 1) ?_|(refine EN ⟨?_,?_,?_⟩ ?_;(simp<;>omega);(show _+1≤9223372036854775807;omega);(show (_+1)*_≤140737488355328;omega)))<;>conv=>whnf
     refine AM [1,4,6,7,8,9,11,53,54,55,73,74] [3] (_+1,l++[_]) ⟨?_,hl2 _,hl'⟩ ?_ ?_
     ·omega
     ·show 8 - _ < 8 - _;omega
     conv=>whnf
     rw [Po,Pp]
     simp only [AA _ (AJ _)]
     rfl
   ·obtain rfl:c=8:=by omega
    obtain rfl:l=Ci (Eh n N) (Ei A) i:=hl
    have hsb:∀x∈Ci (Eh n N) (Ei A) i,-9223372036854775808≤x∧x≤9223372036854775807:=by
     have hcb:∀j,j < n+1→-1≤ci (Ei A) j∧ci (Ei A) j≤1048577:=fun j hj=>by
      by_cases e:j=n
      ·subst e;rw [Hg hAl];omega
      ·rw [KX hAl (by omega)]
       exact hAb _ (List.mem_of_getElem? (Id hAl (by omega)))
     intro x hx
     unfold Ci at hx
     rcases List.mem_cons.1 hx with rfl|hx
     ·have:=hcb i (by omega);omega
     ·obtain ⟨d,hd,rfl⟩:=List.mem_map.1 hx
      have:=hcb _ (hnx i d (by omega) (List.mem_range.1 hd));omega
    have hkw:=(Re (Ci (Eh n N) (Ei A) i) (by omega) hsb).c hC hW CD hG
    have hnn:0≤ci (Ei A) i:=by omega
    cases hlk:A8 (Ci (Eh n N) (Ei A) i) M with
    | some v=>
      have hput:=hR.known (by omega) (by omega) hnn hlk
      rw [QV hBl hlt] at hput
      conv=>whnf
      repeat' (first|refine A1 ?_|refine AO ?_|refine AV ?_|refine Ad ?_|(refine Mf 4 hkw hC EJ rfl (AJ _) rfl ?_ (by kernel_rfl) ?_ ?_;(show [(V.sl 4 0 (Ci (Eh n N) (Ei A) i).length).frz 4 ((Ci (Eh n N) (Ei A) i).map (V.int .i64))]=[AL (Ci (Eh n N) (Ei A) i)];rw [B0 4 _ (by simp)];rfl);kernel_rfl)|refine Gc (kV:=JR) (kA:=Wk) (by rw [hC];exact key_ok) 0 M (Ci (Eh n N) (Ei A) i) v rfl rfl rfl hlk ?_|refine Ms (kV:=JR) (kA:=Wk) (by rw [hC];exact key_ok) 0 M (Ci (Eh n N) (Ei A) i) v rfl rfl rfl (by rw [hlk];rfl) ?_)<;>conv=>whnf
      refine AM [1,4,6,7,8,53,54,55] [4] (i+1,M,B.set i v) ⟨hlt,hBs _,hput⟩ (by show n - (i+1) < n - i;omega) ?_
      conv=>whnf
      rw [Nat.zero_add,Int.toNat_natCast,←List.map_set]
      simp only [AA _ (AJ _)]
      rfl
    | none=>
      have hput:=hR.new (by omega) (by omega) hnn hlk
      rw [QV hBl hlt] at hput
      conv=>whnf
      repeat' (first|refine A1 ?_|refine AO ?_|refine AV ?_|refine Ad ?_|(refine Mf 4 hkw hC EJ rfl (AJ _) rfl ?_ (by kernel_rfl) ?_ ?_;(show [(V.sl 4 0 (Ci (Eh n N) (Ei A) i).length).frz 4 ((Ci (Eh n N) (Ei A) i).map (V.int .i64))]=[AL (Ci (Eh n N) (Ei A) i)];rw [B0 4 _ (by simp)];rfl);kernel_rfl)|refine Gd (kV:=JR) (kA:=Wk) (by rw [hC];exact key_ok) 0 M (Ci (Eh n N) (Ei A) i) rfl rfl rfl hlk ?_|refine Va (kV:=JR) 0 M rfl rfl (by rw [hC];exact ⟨_,_,key_ok.map.choose_spec.choose_spec.1⟩) ?_|refine LX (kV:=JR) (kA:=Wk) (by rw [hC];exact key_ok) 0 M (Ci (Eh n N) (Ei A) i) M.length rfl rfl rfl rfl hlk ?_|refine Ms (kV:=JR) (kA:=Wk) (by rw [hC];exact key_ok) 0 (M++[(Ci (Eh n N) (Ei A) i,(M.length:Int))]) (Ci (Eh n N) (Ei A) i) M.length rfl rfl rfl (by rw [Hb,hlk];simp [A8]) ?_)<;>conv=>whnf
      refine AM [1,4,6,7,8,53,54,55] [4] (i+1,M++[(Ci (Eh n N) (Ei A) i,(M.length:Int))],B.set i (M.length:Int)) ⟨hlt,hBs _,hput⟩ (by show n - (i+1) < n - i;omega) ?_
      conv=>whnf
      rw [Nat.zero_add,Int.toNat_natCast,←List.map_set]
      simp only [AA _ (AJ _)]
      rfl
 ·have hin:n=i:=by omega
  subst hin
  have hfull:=Xb hAl hBl hR
  obtain ⟨m1,m2,m3⟩:=Rb hP hfull hmany
  obtain ⟨hP',hN'⟩:=Ma hnx hP hfull
  conv=>whnf
  repeat' (first|(first|refine A1 ?_|refine Va (kV:=JR) 0 M rfl rfl (by rw [hC];exact ⟨_,_,key_ok.map.choose_spec.choose_spec.1⟩) ?_)<;>conv=>whnf|refine DD (A4 2 2 [] rfl ?_ rfl ?_ rfl (AH ?_))|(first|refine GV (fun h=>?_) (fun h=>?_)|refine AC hE ?_)<;>conv=>whnf)
  ·exact AJ B
  ·omega
  ·exact ⟨rfl,B,rfl,hBl,ZA hnx hP hfull hmany (by omega)⟩
  ·refine BN 0 (BN 1 (Fk 2 1 (by decide) rfl rfl (AM [1,4,6] [] (B,M.length) ⟨hBl,hP',fun x hx=>hR.bnd x (List.mem_append_left _ hx),.inr hN',m2⟩ ?_ ?_)))
   ·show _+2 - M.length < _+2 - many
    omega
   conv=>whnf
   rw [AA _ (AJ B),AA _ (AJ B),FN _ _ (AJ B)]
   rfl
theorem JU {C:Ctx} {P:Program} {K:V→ES→Prop} {σ:ES} (hC:C.P=P) {dT sT e:TypeId} (hu:P.underlying dT=some (.slice e)) (hz:∀w,(Go.sizeOf e).run P w= .ok 1 w)
 {d x:Operand} (id off len:Nat) {els:List V} (l:List V) (hd:σ.val d= .sl id off len) (hrow:σ.heap[id]?=some (some (.row 1 els))) (hoff:off+len≤els.length) (h0:0 < len)
 (hs:∀a w I bl,RP C σ.st a w I bl→∃news,Src C.P w I bl 1 (a.eval x) l news) (hm:l.length≤len)
 (hK:fH (σ.heap.set id (some (.row 1 (els.take off++l++els.drop (off+l.length))))) fun h=>K (.int .i64 l.length) ⟨σ.n,σ.u,h⟩):OpN C (.call { callee:=.builtin .copy,args:=#[d,x],argTypes:=#[dT,sT]}) K σ:=by
 subst hC
 rw [A7] at hK
 refine ⟨fun o ho=>Ak fun a w I bl hp=>?_⟩
 obtain ⟨news,hsrc⟩:=hs a w I bl hp
 have hnl:news.length=l.length:=by rw [hsrc.cells.1,Nat.mul_one]
 have hv:=hp.val d
 rw [Ao,hd] at hv
 rcases hv.inv_sl with ⟨base,z',_,_,h5,_⟩|⟨a',i',_,h5,_⟩|⟨cap,b,base,z',n,e',h1,h2,h3,h4,h5,h6⟩
 ·omega
 ·omega
 obtain ⟨bi,g1,g2,g3,g4⟩:=hp.heap.obj id _ hrow
 rw [h1] at g1
 simp only [Option.some.injEq] at g1
 subst g1
 simp only at g2
 subst g2
 simp only at g4
 obtain ⟨cur,e2,hg,hsz,hc⟩:=g4
 have hsh:=hg.shape
 rw [h2] at hsh
 simp only [Option.some.injEq,Prod.mk.injEq] at hsh
 obtain ⟨rfl,rfl⟩:=hsh
 have hfit:base+off+news.length≤cur.size:=by omega
 obtain ⟨fz,hfz,hgh⟩:=hg
 have hst:=CL (z:=1) (P:=C.P) b (base+off) e' fz news 0 cur w hgh hfz (by simpa using hfit) hsrc.cells.2.1
 simp only [Nat.add_zero] at hst
 have hmin:Nat.min l.length len=l.length:=Nat.min_eq_left hm
 have hrun:(Builtin.copy_ #[dT,sT] o.type #[.slice (some ⟨b,base+off,none⟩) len cap,a.eval x]).run C.P w= .ok (goInt l.length) (w.setRow b (cur.toList.take (base+off)++news++cur.toList.drop (base+off+news.length)).toArray):=by
  have hf:=hsrc.first w rfl
  simp [Builtin.copy_,run_underlying hu,hz,hsrc.len,hmin,hf,hst]
 have hat:∀p,p < cur.size→(cur.toList.take (base+off)++news++cur.toList.drop (base+off+news.length)).toArray[p]?=if p < base+off then cur[p]? else if p < base+off+news.length then news[p - (base+off)]? else cur[p]?:=by
  intro p hp
  simp only [List.getElem?_toArray]
  by_cases h1:p < base+off
  ·rw [if_pos h1,List.append_assoc,List.getElem?_append_left (by simp;omega),List.getElem?_take,if_pos h1,Array.getElem?_toList]
  ·rw [if_neg h1]
   by_cases h2:p < base+off+news.length
   ·rw [if_pos h2,List.append_assoc,List.getElem?_append_right (by simp;omega),List.getElem?_append_left (by simp;omega)]
    congr 1
    simp
    omega
   ·rw [if_neg h2,List.getElem?_append_right (by simp;omega),List.getElem?_drop,Array.getElem?_toList]
    congr 1
    simp
    omega
 have hel:∀k y,(els.take off++l++els.drop (off+l.length))[k]?=some y→(k < off∧els[k]?=some y)∨(off≤k∧k < off+l.length∧l[k - off]?=some y)∨(off+l.length≤k∧els[k]?=some y):=by
  intro k y hy
  by_cases h1:k < off
  ·rw [List.append_assoc,List.getElem?_append_left (by simp;omega),List.getElem?_take,if_pos h1] at hy
   exact .inl ⟨h1,hy⟩
  ·by_cases h2:k < off+l.length
   ·rw [List.append_assoc,List.getElem?_append_right (by simp;omega),List.getElem?_append_left (by simp;omega)] at hy
    refine .inr (.inl ⟨by omega,h2,?_⟩)
    rw [←hy]
    congr 1
    simp
    omega
   ·rw [List.getElem?_append_right (by simp;omega),List.getElem?_drop] at hy
    refine .inr (.inr ⟨by omega,?_⟩)
    rw [←hy]
    congr 1
    simp
    omega
 have hw:=hp.write h1 ⟨fz,hfz,hgh⟩ (cur.toList.take (base+off)++news++cur.toList.drop (base+off+news.length)).toArray (by simp;omega) (els.take off++l++els.drop (off+l.length))
  (fun k y hy=>by
    rcases hel k y hy with ⟨_,h⟩|⟨_,_,h⟩|⟨_,h⟩
    ·exact g3 k y h
    ·exact hsrc.cells.2.2.1 _ y h
    ·exact g3 k y h) (by simp;omega) (fun k y j c hy hc'=>by
    have hk:k < els.length:=by
     have:=(List.getElem?_eq_some_iff.1 hy).1
     simp at this
     omega
    have hj:j < 1:=by
     have hyc:y.cells.length=1:=by
      rcases hel k y hy with ⟨_,h⟩|⟨_,_,h⟩|⟨_,h⟩
      ·exact g3 k y h
      ·exact hsrc.cells.2.2.1 _ y h
      ·exact g3 k y h
     rw [←hyc];exact (List.getElem?_eq_some_iff.1 hc').1
    obtain rfl:j=0:=by omega
    rw [Nat.mul_one,Nat.add_zero]
    have hlt:base+k < cur.size:=by omega
    rw [hat _ hlt]
    rcases hel k y hy with ⟨hk1,h⟩|⟨hk1,hk2,h⟩|⟨hk1,h⟩
    ·rw [if_pos (by omega)]
     have:=hc k y 0 c h hc'
     rwa [Nat.mul_one,Nat.add_zero] at this
    ·rw [if_neg (by omega),if_pos (by omega)]
     have hkl:base+k - (base+off) < news.length:=by omega
     refine ⟨news[base+k - (base+off)],List.getElem?_eq_getElem hkl,hsrc.cells.2.1 _ (List.getElem_mem hkl),?_⟩
     refine hsrc.cells.2.2.2 (k - off) y 0 c _ h hc' ?_
     rw [Nat.mul_one,Nat.add_zero,List.getElem?_eq_getElem (by omega)]
     congr 2
     omega
    ·rw [if_neg (by omega),if_neg (by omega)]
     have:=hc k y 0 c h hc'
     rwa [Nat.mul_one,Nat.add_zero] at this)
 have hr1:IA C (⟨σ.n,σ.u,σ.heap.set id (some (.row 1 (els.take off++l++els.drop (off+l.length))))⟩:ES).st [.int .i64 l.length] a _ [goInt l.length]:=hw.relx (.pure _ _ (.int _ _))
 exact ⟨goInt l.length,_,.int .i64 l.length,_,by simp [execOp,ho,resolve,invoke,builtin,h6,hrun],DH hK,hr1⟩
theorem cV {k:IntKind} {n:Int} {A B:Prop} (h:WW k n=true) (a:A):FitD k n A B:=⟨iG h a⟩
theorem ZE:Fn1 Tryz.prog 99 [.int .u64 1,.int .u64 8] (fun r=>r= .tup [.int .u64 0,.int .u64 8]):=by
 refine Ax Tryz.func99 fun C hC hE=>?_
 conv=>whnf
 repeat' (first|refine AO ?_|refine ea (by simp only [N1,N2];omega) ?_|refine cV (by kernel_rfl) ?_|refine AC hE ?_)<;>conv=>whnf
 exact ⟨by kernel_rfl,by kernel_rfl⟩
theorem ZF:Fn1 Tryz.prog 85 [.int .u64 1,.int .u64 8] (fun r=>r= .tup [.int .u64 0,.int .u64 8]):=by
 refine Ax Tryz.func85 fun C hC hE=>?_
 conv=>whnf
 repeat' (first|refine AN ZE hC Ut ?_|refine AC hE ?_)<;>conv=>whnf
 exact ⟨rfl,rfl⟩
theorem Hu (w:World):(Go.sizeOf 3).run Tryz.prog w= .ok 1 w:=by kernel_rfl
theorem Tc:Fn1 Tryz.prog 60 [AL [-1],.int .i64 8] (fun r=>r=AL (List.replicate 8 (-1))):=by
 have hmul:=ZF
 unfold AL
 refine Ax Tryz.func60 fun C hC hE=>?_
 conv=>whnf
 repeat' (first|refine A1 ?_|refine AO ?_|refine AV ?_|refine ea (by simp only [N1,N2];omega) ?_|refine AN ZF hC Un ?_|(refine JU (e:=3) hC (by kernel_rfl) Hu 0 0 8 (els:=List.replicate 8 (.int .i64 0)) [.int .i64 (-1)] rfl rfl (by decide) (by decide) (fun a w I bl hp=>Uz (hp.val _) ?_) (by decide) ?_;(intro y hy;simp at hy;subst hy;rfl))|intro hlen)<;>conv=>whnf
 refine Ab (fun n:Nat=>⟨48,[(7,.sl 0 0 8),(8,.int .i64 n)],[some (.row 1 (List.replicate n (.int .i64 (-1))++List.replicate (8 - n) (.int .i64 0)))]⟩) (fun n=>n=1∨n=2∨n=4∨n=8) (fun n=>8 - n) 1 hE ?_ (.inl rfl) ?_
 ·refine AP [7,8] ?_
  conv=>whnf
  rfl
 rintro n hn
 rcases hn with rfl|rfl|rfl|rfl
 ·conv=>whnf
  repeat' (first|refine A2 ?_|refine AO ?_|refine cV (by kernel_rfl) ?_|(refine C1 hE [⟨0,[(0,none),(1,none),(2,none),(3,none),(4,none),(5,none),(6,none)],some 7,[0],[[],[0]],[]⟩,⟨0,[(8,none),(9,none)],none,[],[[]],[]⟩] ?_ ?_;decide +kernel)|(refine JU (e:=3) hC (by kernel_rfl) Hu 0 1 7 (els:=List.replicate 1 (V.int .i64 (-1))++List.replicate (8 - 1) (V.int .i64 0)) (((List.replicate 1 (V.int .i64 (-1))++List.replicate (8 - 1) (V.int .i64 0)).drop 0).take 1) rfl rfl (by decide) (by decide) ?_ (by decide) ?_;exact fun a w I bl hp=>PV (id:=0) hp (show Rep w I bl _ (.sl 0 0 1) from hp.val _) rfl (by decide))|intro hlen|refine By ?_|refine JM ?_ ?_)<;>conv=>whnf
  all_goals
   refine AD [7,8] 2 (Or.inr (Or.inl rfl)) (show 8 - 2 < 8 - 1 by decide) ?_
   conv=>whnf
   rfl
 ·conv=>whnf
  repeat' (first|refine A2 ?_|refine AO ?_|refine cV (by kernel_rfl) ?_|(refine C1 hE [⟨0,[(0,none),(1,none),(2,none),(3,none),(4,none),(5,none),(6,none)],some 7,[0],[[],[0]],[]⟩,⟨0,[(8,none),(9,none)],none,[],[[]],[]⟩] ?_ ?_;decide +kernel)|(refine JU (e:=3) hC (by kernel_rfl) Hu 0 2 6 (els:=List.replicate 2 (V.int .i64 (-1))++List.replicate (8 - 2) (V.int .i64 0)) (((List.replicate 2 (V.int .i64 (-1))++List.replicate (8 - 2) (V.int .i64 0)).drop 0).take 2) rfl rfl (by decide) (by decide) ?_ (by decide) ?_;exact fun a w I bl hp=>PV (id:=0) hp (show Rep w I bl _ (.sl 0 0 2) from hp.val _) rfl (by decide))|intro hlen|refine By ?_|refine JM ?_ ?_)<;>conv=>whnf
  all_goals
   refine AD [7,8] 4 (Or.inr (Or.inr (Or.inl rfl))) (show 8 - 4 < 8 - 2 by decide) ?_
   conv=>whnf
   rfl
 ·conv=>whnf
  repeat' (first|refine A2 ?_|refine AO ?_|refine cV (by kernel_rfl) ?_|(refine C1 hE [⟨0,[(0,none),(1,none),(2,none),(3,none),(4,none),(5,none),(6,none)],some 7,[0],[[],[0]],[]⟩,⟨0,[(8,none),(9,none)],none,[],[[]],[]⟩] ?_ ?_;decide +kernel)|(refine JU (e:=3) hC (by kernel_rfl) Hu 0 4 4 (els:=List.replicate 4 (V.int .i64 (-1))++List.replicate (8 - 4) (V.int .i64 0)) (((List.replicate 4 (V.int .i64 (-1))++List.replicate (8 - 4) (V.int .i64 0)).drop 0).take 4) rfl rfl (by decide) (by decide) ?_ (by decide) ?_;exact fun a w I bl hp=>PV (id:=0) hp (show Rep w I bl _ (.sl 0 0 4) from hp.val _) rfl (by decide))|intro hlen|refine By ?_|refine JM ?_ ?_)<;>conv=>whnf
  all_goals
   refine AD [7,8] 8 (Or.inr (Or.inr (Or.inr rfl))) (show 8 - 8 < 8 - 4 by decide) ?_
   conv=>whnf
   rfl
 ·conv=>whnf
  repeat' (first|refine A1 ?_<;>conv=>whnf|refine DD (A4 0 4 [] rfl ?_ rfl ?_ rfl (AH ?_))|(first|refine AC hE ?_|intro hlen)<;>conv=>whnf)
  ·exact ⟨trivial,trivial,trivial,trivial,trivial,trivial,trivial,trivial,trivial⟩
  ·rfl
  ·exact ⟨rfl,rfl⟩
end Go.Proofs.YtkaiffheakalmaaGreatDoor
